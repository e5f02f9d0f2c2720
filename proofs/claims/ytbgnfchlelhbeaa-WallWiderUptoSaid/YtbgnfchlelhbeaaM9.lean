/- What is proved: small laws for the walks of this seat, and contracts of its functions. No condition but those each theorem names. -/
import Derived.Test.YtbgnfchlelhbeaaM5
import Derived.Test.YtbgnfchlelhbeaaM7
set_option maxRecDepth 100000
set_option linter.unusedVariables false
namespace Go.Abs.Wall
open Go Go.Abs Go.Proofs
/-! ### the specification's search: spots -/
def c0_ : Cel := ⟨0, 0, []⟩
def closeM (cells : List Cel) : Nat → Nat → List Pos → Option (List Pos)
  | 0, i, l => if l.length ≤ i then some l else none
  | f + 1, i, l => match l[i]? with
    | none => some l
    | some s => if s.1 < 0 ∨ (cells.length : Int) < s.1 then none else
      if s.1 = cells.length ∨ s.2 < (cells.getD s.1.toNat c0_).mn then closeM cells f (i + 1) l else closeM cells f (i + 1) (if (s.1 + 1, 0) ∈ l then l else l ++ [(s.1 + 1, 0)])
theorem closeM_nil {cells : List Cel} : ∀ {f : Nat}, closeM cells f 0 [] = some []
  | 0 => rfl
  | f + 1 => rfl
theorem closeM_end {cells : List Cel} {l R : List Pos} {i : Nat} : ∀ {f : Nat}, l.length ≤ i → closeM cells f i l = some R → R = l
  | 0, hi, h => by rw [closeM, if_pos hi] at h; exact (Option.some.inj h).symm
  | f + 1, hi, h => by rw [closeM, List.getElem?_eq_none hi] at h; exact (Option.some.inj h).symm
theorem eqPos101 (a b : Pos) : eqV Try.prog 101 (ekP a) (ekP b) = some (decide (a = b)) := by
  show (match eqS Try.prog 3 (.int .i64 a.1) (.int .i64 b.1) with
      | some b' => (match (match eqS Try.prog 3 (.int .i64 a.2) (.int .i64 b.2) with
        | some c => some (c && true)
        | none => none) with
        | some c => some (b' && c)
        | none => none)
      | none => none) = _
  show some (decide (a.1 = b.1) && (decide (a.2 = b.2) && true)) = _
  congr 1
  rw [Bool.eq_iff_iff]
  simp [Prod.ext_iff]
theorem ixG {α : Type} {enc : α → List AV} {l : List α} {x : α} {i : Nat} {g : G} {n : Int} {K : AV → Prop} (hn : n = (i : Int)) (hx : l[i]? = some x) (hk : K (.iptr (enc x))) :
    ∃ (j : Nat) (y : List AV), gP g (n = (j : Int) ∧ (l.map enc)[j]? = some y) ∧ K (.iptr y) := ⟨i, enc x, gP_of ⟨hn, by simp [hx]⟩, hk⟩
theorem plain101 : plainT Try.prog 101 = true := by decide +kernel
def c54 : Cfg := ⟨[0, 1, 4, 5, 6, 7, 8, 9, 13, 35, 43, 56], [], [6, 7], [], [(5, [0, 1, 2, 3, 4, 5, 6, 7, 8, 9, 10, 11, 12, 13, 14, 15], []), (11, [0, 1, 2, 3, 4, 5, 6, 7, 8, 9], [])], []⟩
def c55 : Cfg := ⟨[0, 1, 4, 5, 9, 19], [], [], [], [], []⟩
def c56 : Cfg := ⟨[0, 1, 2, 6, 7, 8, 9, 13, 45], [], [9], [], [(6, [0, 1, 2, 3, 4, 5, 6, 7, 8, 9, 10, 11, 12, 13, 14, 15, 16, 17, 18, 19, 20, 21, 22, 23, 24, 25], [])], []⟩
def c57 : Cfg := ⟨[0, 1, 4, 5, 6, 7, 12, 16, 22, 38], [], [], [], [(10, [0, 1, 2, 3, 4, 5, 6, 7, 8, 9, 10, 11, 12], [])], []⟩
theorem closeSpots (cells : List Cel) (hc : cells.length ≤ 1048576) (F : Nat) (l0 R : List Pos) (q0 : Nat) (hl : l0.length + F ≤ 1048576) (hR : closeM cells F 0 l0 = some R) :
    ACalls Try.prog 54 [.sl 3 none (cells.map encCel), .sl 2 (some q0) (l0.map encPos)] [(q0, .tok)] (fun v h' => ∃ q, v = .sl 2 (some q) (R.map encPos) ∧ h' = [(q, .tok)]) := by
  refine fcalls (F := Try.f54) c54 rfl rfl rfl mixed rfl fun X => ?_
  conv => whnf
  refine sloop rfl mixed [0, 1, 5] [] (fun m r h => ∃ (f i q : Nat) (l : List Pos), r = [(0, [], .sl 3 none (cells.map encCel)), (1, [], .sl 2 (some q) (l.map encPos)), (5, [], .int .i64 i)] ∧ h = [(q, .tok)] ∧ m = f ∧ i ≤ l.length ∧ l.length + f ≤ 1048576 ∧ closeM cells f i l = some R) ?_ ?_
  · conv => whnf
    exact ⟨_, F, 0, q0, l0, rfl, rfl, rfl, by omega, by omega, hR⟩
  · rintro f r h ⟨_, i, q, l, rfl, rfl, rfl, hi, hlf, he⟩
    conv => whnf
    refine ⟨fun hf => ?_, fun hf => ?_⟩ <;> simp at hf
    · obtain ⟨s, hs⟩ := get_lt hf
      cases f with
      | zero => rw [closeM, if_neg (by omega)] at he; cases he
      | succ f =>
      rw [closeM, hs] at he
      simp only at he
      split at he
      · cases he
      rename_i hb
      have hcl : (cells.map encCel).length = cells.length := by simp
      conv => whnf
      repeat ((first | refine ix (by assumption) ?_ | (refine ixg c0_ ?_ ?_; (focus (conv => whnf; skip)); (focus (intro g1; have g1 := of_decide_eq_false g1; show 0 ≤ _ ∧ _ < _; omega)))
                     | refine ⟨_, _, Rem.here _, ⟨Nat.le_of_ble_eq_true rfl, rfl⟩, ?_⟩ | refine And.intro (by show drawOK (opsAt Try.f54 _) _ = true; decide +kernel) ?_ | intro (nb : Nat)); conv => whnf)
      refine ⟨fun hd => ?_, fun hd => ?_⟩
      · rw [if_pos (by simpa [-List.getD_eq_getElem?_getD] using hd)] at he
        conv => whnf
        repeat (refine ⟨gP_of ⟨by omega, by omega⟩, ?_⟩; conv => whnf)
        exact ⟨f, by omega, f, i + 1, q, l, rfl, rfl, rfl, by omega, by omega, he⟩
      · have hd2 : ¬ (s.1 = cells.length ∨ s.2 < (cells.getD s.1.toNat c0_).mn) := by
          rw [List.length_map] at hd
          intro h
          rcases h with h | h
          · rw [decide_eq_true h] at hd; cases hd
          · rw [decide_eq_true h, Bool.or_true] at hd; cases hd
        rw [if_neg hd2] at he
        conv => whnf
        repeat ((first | refine ⟨gP_of ⟨by omega, by omega⟩, ?_⟩ | refine ⟨_, _, Rem.here _, ⟨Nat.le_of_ble_eq_true rfl, rfl⟩, ?_⟩ | intro (nb : Nat)); conv => whnf)
        refine sloop rfl mixed [0, 1, 5, 7, 8, 9] [] (fun m r h => ∃ (k : Nat), r = [(0, [], .sl 3 none (cells.map encCel)), (1, [], .sl 2 (some q) (l.map encPos)), (5, [], .int .i64 i), (7, [], .iptr (encPos (s.1 + 1, 0))), (8, [], .bool (decide ((s.1 + 1, (0 : Int)) ∈ l.take k))), (9, [], .int .i64 k)] ∧ h = [(q, .tok)] ∧ m = l.length - k ∧ k ≤ l.length) ?_ ?_
        · conv => whnf
          exact ⟨_, 0, by simp; rfl, rfl, rfl, by omega⟩
        · rintro m rr hh ⟨k, rfl, rfl, rfl, hk⟩
          conv => whnf
          refine ⟨fun hf1 => ?_, fun hf1 => ?_⟩ <;> simp at hf1
          · obtain ⟨y, hy⟩ := get_lt hf1
            have hyk : (decide ((s.1 + 1, (0 : Int)) ∈ l.take k) || (decide (y.1 = s.1 + 1) && (decide (y.2 = 0) && true))) = decide ((s.1 + 1, (0 : Int)) ∈ l.take (k + 1)) := by
              rw [List.take_add_one, hy, Bool.eq_iff_iff]
              simp only [Bool.or_eq_true, Bool.and_eq_true, decide_eq_true_eq, List.mem_append, Option.toList, List.mem_singleton, Prod.ext_iff, and_true]
              exact ⟨fun h => h.elim .inl (fun h => .inr ⟨h.1.symm, h.2.symm⟩), fun h => h.elim .inl (fun h => .inr ⟨h.1.symm, h.2.symm⟩)⟩
            conv => whnf
            repeat ((first | refine ⟨gP_of ⟨by omega, by omega⟩, ?_⟩ | refine ix (by assumption) ?_ | (refine ⟨plain101, ?_⟩) | refine And.intro (by show drawOK (opsAt Try.f54 _) _ = true; decide +kernel) ?_); conv => whnf)
            exact ⟨_, by omega, k + 1, by rw [← hyk]; rfl, rfl, rfl, by omega⟩
          · have hkl : l.take k = l := List.take_of_length_le (by omega)
            rw [hkl]
            conv => whnf
            refine ⟨fun hm => ?_, fun hm => ?_⟩
            · have hm : ¬ (s.1 + 1, (0 : Int)) ∈ l := by simpa using hm
              rw [if_neg hm] at he
              conv => whnf
              repeat ((first | refine ⟨gP_of ⟨by omega, by omega⟩, ?_⟩ | (refine ⟨(by rw [List.length_append, List.length_map]; show _ + 1 ≤ 4294967296; omega), fun q' => ⟨_, .here _, ?_⟩⟩)); conv => whnf)
              exact ⟨f, by omega, f, i + 1, q', l ++ [(s.1 + 1, 0)], by simp [encPos], rfl, rfl, by simp; omega, by simp; omega, he⟩
            · have hm : (s.1 + 1, (0 : Int)) ∈ l := by simpa using hm
              rw [if_pos hm] at he
              conv => whnf
              repeat (refine ⟨gP_of ⟨by omega, by omega⟩, ?_⟩; conv => whnf)
              exact ⟨f, by omega, f, i + 1, q, l, rfl, rfl, rfl, by omega, by omega, he⟩
    · rw [closeM_end hf he]
      conv => whnf
      exact ⟨q, rfl, rfl⟩
theorem closeNil (cells : List Cel) : ACalls Try.prog 54 [.sl 3 none (cells.map encCel), .nilS] [] (fun v h' => v = .nilS ∧ h' = []) := by
  refine fcalls (F := Try.f54) c54 rfl rfl rfl mixed rfl fun X => ?_
  conv => whnf
  refine sloop rfl mixed [0, 1, 5] [] (fun m r h => r = [(0, [], .sl 3 none (cells.map encCel)), (1, [], .nilS), (5, [], .int .i64 0)] ∧ h = [] ∧ m = 0 ∧ True) ?_ ?_
  · conv => whnf
    exact ⟨_, rfl, rfl, rfl, trivial⟩
  · rintro m r h ⟨rfl, rfl, rfl, _⟩
    conv => whnf
    refine cF rfl ?_
    conv => whnf
    exact ⟨rfl, rfl⟩
theorem overR (cells : List Cel) (l : List Pos) (hl : l.length ≤ LMAX) : QCall Try.prog 55 [.sl 3 none (cells.map encCel), .sl 2 none (l.map encPos)] [] (.bool (l.any fun s => decide (s.1 = cells.length))) := by
  unfold LMAX at hl
  refine fcalls (F := Try.f55) c55 rfl rfl rfl mixed rfl fun X => ?_
  conv => whnf
  refine sloop rfl mixed [0, 1, 5] [] (fun m r h => ∃ (i : Nat), r = [(0, [], .sl 3 none (cells.map encCel)), (1, [], .sl 2 none (l.map encPos)), (5, [], .int .i64 i)] ∧ h = [] ∧ m = l.length - i ∧ i ≤ l.length ∧ (l.any fun s => decide (s.1 = cells.length)) = (l.drop i).any fun s => decide (s.1 = cells.length)) ?_ ?_
  · conv => whnf
    exact ⟨_, 0, rfl, rfl, rfl, by omega, rfl⟩
  · rintro m r h ⟨i, rfl, rfl, rfl, hi, hr⟩
    conv => whnf
    refine ⟨fun hf => ?_, fun hf => ?_⟩ <;> simp at hf
    · obtain ⟨s, hs⟩ := get_lt hf
      rw [drop_cons hs, List.any_cons] at hr
      conv => whnf
      repeat (refine ix (by assumption) ?_; conv => whnf)
      rw [List.length_map]
      refine ⟨fun he => ?_, fun he => ?_⟩
      · rw [he, Bool.true_or] at hr
        conv => whnf
        exact ⟨by rw [hr], rfl⟩
      · rw [he, Bool.false_or] at hr
        conv => whnf
        repeat (refine ⟨gP_of ⟨by omega, by omega⟩, ?_⟩; conv => whnf)
        exact ⟨_, by omega, i + 1, rfl, rfl, rfl, by omega, hr⟩
    · rw [drop_nil hf] at hr
      conv => whnf
      exact ⟨by rw [hr]; rfl, rfl⟩
def stepR (cells : List Cel) (sign : Int) : List Pos → Option (List Pos)
  | [] => some []
  | s :: l => if s.1 < 0 ∨ (cells.length : Int) < s.1 ∨ s.2 < 0 ∨ 1048576 < s.2 then none else
    if s.1 = cells.length ∨ s.2 = (cells.getD s.1.toNat c0_).mx ∨ allows (cells.getD s.1.toNat c0_) sign = false then stepR cells sign l else (stepR cells sign l).map ((s.1, s.2 + 1) :: ·)
def advM (F : Nat) (cells : List Cel) (l : List Pos) (sign : Int) : Option (List Pos) := match stepR cells sign l with
  | none => none
  | some o => closeM cells F 0 o
theorem stepR_len {cells : List Cel} {sign : Int} : ∀ {l o : List Pos}, stepR cells sign l = some o → o.length ≤ l.length
  | [], o, h => by cases h; simp
  | s :: l, o, h => by
    rw [stepR] at h
    split at h
    · cases h
    · split at h
      · have := stepR_len h; simp only [List.length_cons]; omega
      · cases hs : stepR cells sign l with
        | none => rw [hs] at h; cases h
        | some o' => rw [hs] at h; cases h; have := stepR_len hs; simp only [List.length_cons]; omega
/-- a list of spots that grows: nil, or with its token -/
def SV (l : List Pos) (v : AV) (T : Heap) : Prop := (l = [] ∧ v = .nilS ∧ T = []) ∨ ∃ q, v = .sl 2 (some q) (l.map encPos) ∧ T = [(q, .tok)]
theorem advance (cells : List Cel) (hc : CelsOK cells) (F : Nat) (l R : List Pos) (sign : Int) (hl : l.length + F ≤ 1048576) (hR : advM F cells l sign = some R) :
    QCall Try.prog 56 [.sl 3 none (cells.map encCel), .sl 2 none (l.map encPos), .int .i64 sign] [] (.sl 2 none (R.map encPos)) := by
  unfold advM at hR
  split at hR
  · cases hR
  rename_i o ho
  have hol := stepR_len ho
  have hcl := hc.len
  refine QCall.of ?_
  refine fcalls (F := Try.f56) c56 rfl rfl rfl mixed rfl fun X => ?_
  conv => whnf
  refine sloop rfl mixed [0, 1, 2, 7, 8] [] (fun m r h => ∃ (i : Nat) (a : List Pos) (v : AV) (T : Heap), r = [(0, [], .sl 3 none (cells.map encCel)), (1, [], .sl 2 none (l.map encPos)), (2, [], .int .i64 sign), (7, [], v), (8, [], .int .i64 i)] ∧ h = T ∧ m = l.length - i ∧ i ≤ l.length ∧ a.length ≤ i ∧ SV a v T ∧ (stepR cells sign (l.drop i)).map (a ++ ·) = some o) ?_ ?_
  · conv => whnf
    exact ⟨_, 0, [], .nilS, [], rfl, rfl, rfl, by omega, by simp, .inl ⟨rfl, rfl, rfl⟩, by simp [ho]⟩
  · rintro m r h ⟨i, a, v, T, rfl, rfl, rfl, hi, hal, hv, hs⟩
    conv => whnf
    refine ⟨fun hf => ?_, fun hf => ?_⟩ <;> simp at hf
    · obtain ⟨s, hx⟩ := get_lt hf
      rw [drop_cons hx, stepR] at hs
      split at hs
      · cases hs
      rename_i hb
      have hsg : (cells.getD s.1.toNat c0_).signs.length ≤ LMAX := by
        have := getD_signs hc s.1.toNat; exact this
      conv => whnf
      repeat ((first | refine ix (by assumption) ?_ | (refine ixg c0_ ?_ ?_; (focus (conv => whnf; skip)); (focus (first | (intro g1; have g1 := of_decide_eq_false g1; rw [List.length_map] at g1; show 0 ≤ _ ∧ _ < _; omega) | (intro g1; have g1 := (Bool.or_eq_false_iff.1 g1).1; have g1 := of_decide_eq_false g1; rw [List.length_map] at g1; show 0 ≤ _ ∧ _ < _; omega))))
                     | refine gcall (allowsR (cells.getD s.1.toNat c0_) sign hsg) ?_ | refine ⟨_, _, Rem.here _, ⟨Nat.le_of_ble_eq_true rfl, rfl⟩, ?_⟩ | refine And.intro (by show drawOK (opsAt Try.f56 _) _ = true; decide +kernel) ?_
                     | intro (nb : Nat)); conv => whnf)
      have hcond : (decide (s.1 = ((cells.map encCel).length : Int)) || decide (s.2 = (cells.getD s.1.toNat c0_).mx) || !allows (cells.getD s.1.toNat c0_) sign) = decide (s.1 = cells.length ∨ s.2 = (cells.getD s.1.toNat c0_).mx ∨ allows (cells.getD s.1.toNat c0_) sign = false) := by
        rw [List.length_map, Bool.eq_iff_iff]
        simp only [Bool.or_eq_true, decide_eq_true_eq, Bool.not_eq_true', or_assoc]
      rw [hcond]
      refine ⟨fun hd => ?_, fun hd => ?_⟩
      · rw [if_pos (of_decide_eq_true hd)] at hs
        conv => whnf
        repeat (refine ⟨gP_of ⟨by omega, by omega⟩, ?_⟩; conv => whnf)
        exact ⟨_, by omega, i + 1, a, v, _, rfl, rfl, rfl, by omega, by omega, hv, hs⟩
      · rw [if_neg (of_decide_eq_false hd)] at hs
        have hs2 : (stepR cells sign (l.drop (i + 1))).map ((a ++ [(s.1, s.2 + 1)]) ++ ·) = some o := by
          rw [← hs]
          cases stepR cells sign (l.drop (i + 1)) <;> simp
        rcases hv with ⟨rfl, rfl, rfl⟩ | ⟨q, rfl, rfl⟩
        · conv => whnf
          repeat ((first | refine ⟨gP_of ⟨by omega, by omega⟩, ?_⟩ | (refine ⟨(by show 1 ≤ 4294967296; omega), fun q' => ?_⟩)); conv => whnf)
          exact ⟨_, by omega, i + 1, _, _, _, rfl, rfl, rfl, by omega, by simp, .inr ⟨q', rfl, rfl⟩, hs2⟩
        · conv => whnf
          repeat ((first | refine ⟨gP_of ⟨by omega, by omega⟩, ?_⟩ | (refine ⟨(by rw [List.length_append, List.length_map]; show _ + 1 ≤ 4294967296; omega), fun q' => ⟨_, .here _, ?_⟩⟩)); conv => whnf)
          exact ⟨_, by omega, i + 1, _, _, _, rfl, rfl, rfl, by omega, by simp; omega, .inr ⟨q', by rw [List.map_append]; rfl, rfl⟩, hs2⟩
    · rw [drop_nil hf, stepR] at hs
      have hao : a = o := by simpa using hs
      subst hao
      rcases hv with ⟨rfl, rfl, rfl⟩ | ⟨q, rfl, rfl⟩
      · have hR0 : R = [] := by rw [closeM_nil] at hR; exact (Option.some.inj hR).symm
        subst hR0
        conv => whnf
        refine ACalls.mono ?_ (closeNil cells)
        rintro v h' ⟨rfl, rfl⟩
        conv => whnf
        exact VLe.nil (by decide)
      · conv => whnf
        refine ACalls.mono ?_ (closeSpots cells (by omega) F a R q (by omega) hR)
        rintro v h' ⟨q', rfl, rfl⟩
        conv => whnf
        exact VLe.sl
theorem anyEq (y : Pos) (l : List Pos) : decide (y ∈ l) = l.any fun z => decide (y = z) := by
  rw [Bool.eq_iff_iff]; simp
def sameB (a b : List Pos) : Bool := decide (a.length = b.length) && a.all fun x => decide (x ∈ b)
theorem sameR (a b : List Pos) (ha : a.length ≤ LMAX) (hb : b.length ≤ LMAX) : QCall Try.prog 57 [.sl 2 none (a.map encPos), .sl 2 none (b.map encPos)] [] (.bool (sameB a b)) := by
  unfold LMAX at ha hb
  refine fcalls (F := Try.f57) c57 rfl rfl rfl mixed rfl fun X => ?_
  conv => whnf
  rw [List.length_map, List.length_map]
  refine ⟨fun hd => ?_, fun hd => ?_⟩
  · conv => whnf
    exact ⟨by unfold sameB; rw [show decide (a.length = b.length) = false from by (have hd2 : ¬ ((a.length : Int) = b.length) := by simpa using hd); simp; omega]; rfl, rfl⟩
  have hab : a.length = b.length := by (have hd2 : (a.length : Int) = b.length := by simpa using hd); omega
  have hsm : sameB a b = a.all fun x => decide (x ∈ b) := by unfold sameB; simp [hab]
  rw [hsm]
  conv => whnf
  refine sloop rfl mixed [0, 1, 5] [] (fun m r h => ∃ (i : Nat), r = [(0, [], .sl 2 none (a.map encPos)), (1, [], .sl 2 none (b.map encPos)), (5, [], .int .i64 i)] ∧ h = [] ∧ m = a.length - i ∧ i ≤ a.length ∧ (a.all fun x => decide (x ∈ b)) = (a.drop i).all fun x => decide (x ∈ b)) ?_ ?_
  · conv => whnf
    exact ⟨_, 0, rfl, rfl, rfl, by omega, rfl⟩
  · rintro m r h ⟨i, rfl, rfl, rfl, hi, hr⟩
    conv => whnf
    refine ⟨fun hf => ?_, fun hf => ?_⟩ <;> simp at hf
    · obtain ⟨x, hx⟩ := get_lt hf
      rw [drop_cons hx, List.all_cons] at hr
      conv => whnf
      skip
      refine sloop rfl mixed [0, 1, 5, 6, 7] [] (fun m r h => ∃ (k : Nat), r = [(0, [], .sl 2 none (a.map encPos)), (1, [], .sl 2 none (b.map encPos)), (5, [], .int .i64 i), (6, [], .bool (decide (x ∈ b.take k))), (7, [], .int .i64 k)] ∧ h = [] ∧ m = b.length - k ∧ k ≤ b.length) ?_ ?_
      · conv => whnf
        exact ⟨_, 0, rfl, rfl, rfl, by omega⟩
      · rintro mm rr hh ⟨k, rfl, rfl, rfl, hk⟩
        conv => whnf
        refine ⟨fun hf1 => ?_, fun hf1 => ?_⟩ <;> simp at hf1
        · obtain ⟨y, hy⟩ := get_lt hf1
          have hyk : (decide (x ∈ b.take k) || (decide (x.1 = y.1) && (decide (x.2 = y.2) && true))) = decide (x ∈ b.take (k + 1)) := by
            rw [List.take_add_one, hy, Bool.eq_iff_iff]
            simp only [Bool.or_eq_true, Bool.and_eq_true, decide_eq_true_eq, List.mem_append, Option.toList, List.mem_singleton, Prod.ext_iff, and_true]
          conv => whnf
          repeat ((first | refine ⟨gP_of ⟨by omega, by omega⟩, ?_⟩ | refine ix (by assumption) ?_ | (refine ⟨plain101, ?_⟩) | refine And.intro (by show drawOK (opsAt Try.f57 _) _ = true; decide +kernel) ?_); conv => whnf)
          exact ⟨_, by omega, k + 1, by rw [← hyk]; rfl, rfl, rfl, by omega⟩
        · have hkl : b.take k = b := List.take_of_length_le (by omega)
          rw [hkl]
          conv => whnf
          refine ⟨fun hm => ?_, fun hm => ?_⟩
          · conv => whnf
            exact ⟨by rw [hr, show decide (x ∈ b) = false from by simpa using hm]; rfl, rfl⟩
          · rw [show decide (x ∈ b) = true from by simpa using hm, Bool.true_and] at hr
            conv => whnf
            repeat (refine ⟨gP_of ⟨by omega, by omega⟩, ?_⟩; conv => whnf)
            exact ⟨_, by omega, i + 1, rfl, rfl, rfl, by omega, hr⟩
    · rw [drop_nil hf] at hr
      conv => whnf
      exact ⟨by rw [hr]; rfl, rfl⟩
end Go.Abs.Wall
set_option maxRecDepth 100000
set_option linter.unusedVariables false
namespace Go.Abs.Wall
open Go Go.Abs Go.Proofs
/-- one walk for several roads -/
theorem byKeyQ {α : Type} {A : Prop} {P : α → Prop} (Q : α → Prop) (h1 : (∀ a, Q a → P a) → A) (h2 : ∀ a, Q a → P a) : A := h1 h2
theorem holds_up {P : Program} {c : Cfg} {F : Func} {E : En} {S : List Fr} {k k' n : Nat} {X : Nat → Prop} {cc : Code} {r : Regs} {h : Heap} (hk : Nat.ble k k' = true) (hh : Holds P n X cc (fun e r h => run P c F E k (.ex e) S r h) r h) : Holds P n X cc (fun e r h => run P c F E k' (.ex e) S r h) r h :=
  holds_mono (fun e r h => run_mono k k' _ _ (Nat.le_of_ble_eq_true hk)) hh
/-! ### Count of the specification -/
abbrev SW := List (List Pos × Int)
def encS (x : List Pos × Int) : List AV := [.sl 2 none (x.1.map encPos)]
def encW (x : List Pos × Int) : List AV := [.int .i64 x.2]
def wayV (nx : SW) : List AV := nx.map fun x => AV.int .i64 x.2
def putM (s : List Pos) (w : Int) : SW → SW
  | [] => [(s, min (0 + w) CMAX)]
  | x :: r => if sameB x.1 s then (x.1, min (x.2 + w) CMAX) :: r else x :: putM s w r
def sgGo (F : Nat) (cells : List Cel) (set : List Pos) (w : Int) : List Int → SW → Option SW
  | [], nx => some nx
  | g :: gs, nx => match advM F cells set g with
    | none => none
    | some s => if 1048576 < s.length ∨ 1048575 < nx.length then none else if s = [] then sgGo F cells set w gs nx else sgGo F cells set w gs (putM s w nx)
def layGo (F : Nat) (cells : List Cel) (n : Int) : SW → SW → Int → Option (SW × Int)
  | [], nx, sum => some (nx, sum)
  | x :: r, nx, sum => if 65536 < x.1.length + F then none else match sgGo F cells x.1 x.2 (upto n) nx with
    | none => none
    | some nx2 => layGo F cells n r nx2 (if (x.1.any fun s => decide (s.1 = cells.length)) = true then min (sum + x.2) CMAX else sum)
def cntR (F : Nat) (cells : List Cel) (n : Int) : Nat → SW → Int → Option Int
  | 0, _, _ => none
  | f + 1, sw, sum => if 1048576 < sw.length then none else if sw = [] then some sum else match layGo F cells n sw [] sum with
    | none => none
    | some (nx, sum2) => cntR F cells n f nx sum2
/-- sets and how many lines lead to them, in bounds -/
def SWok (sw : SW) : Prop := ∀ x ∈ sw, x.1.length ≤ 1048576 ∧ 0 ≤ x.2 ∧ x.2 ≤ CMAX
theorem putM_hit {s : List Pos} {w : Int} : ∀ {nx : SW} {i : Nat} {x : List Pos × Int}, (∀ (j : Nat) y, j < i → nx[j]? = some y → sameB y.1 s = false) → nx[i]? = some x → sameB x.1 s = true → putM s w nx = nx.set i (x.1, min (x.2 + w) CMAX)
  | [], i, x, _, h, _ => by cases h
  | y :: nx, 0, x, _, h, hs => by cases h; rw [putM, if_pos hs]; rfl
  | y :: nx, i + 1, x, hb, h, hs => by
    rw [putM, if_neg (by rw [hb 0 y (by omega) rfl]; decide), putM_hit (i := i) (fun j z hj hz => hb (j + 1) z (by omega) (by simpa using hz)) (by simpa using h) hs]
    rfl
theorem putM_miss {s : List Pos} {w : Int} : ∀ {nx : SW}, (∀ y ∈ nx, sameB y.1 s = false) → putM s w nx = nx ++ [(s, min (0 + w) CMAX)]
  | [], _ => rfl
  | y :: nx, h => by
    rw [putM, if_neg (by rw [h y (by simp)]; decide), putM_miss fun z hz => h z (by simp [hz])]
    rfl
theorem putM_ok {s : List Pos} {w : Int} (hs : s.length ≤ 1048576) (hw : 0 ≤ w) : ∀ {nx : SW}, SWok nx → SWok (putM s w nx)
  | [], _, x, hx => by
    simp only [putM, List.mem_singleton] at hx
    subst hx
    have hcm : CMAX = 1099511627776 := rfl
    exact ⟨hs, by simp only; omega, by simp only; omega⟩
  | y :: nx, h, x, hx => by
    have hcm : CMAX = 1099511627776 := rfl
    have hy := h y (by simp)
    rw [putM] at hx
    split at hx
    · rcases List.mem_cons.1 hx with rfl | hx
      · exact ⟨hy.1, by simp only; omega, by simp only; omega⟩
      · exact h x (by simp [hx])
    · rcases List.mem_cons.1 hx with rfl | hx
      · exact hy
      · exact putM_ok hs hw (fun z hz => h z (by simp [hz])) x hx
theorem putM_len (s : List Pos) (w : Int) : ∀ nx : SW, (putM s w nx).length ≤ nx.length + 1
  | [] => by simp [putM]
  | y :: nx => by
    have := putM_len s w nx
    rw [putM]
    split <;> simp only [List.length_cons] <;> omega
/-- the rows that are made for the next length -/
def NM (nx : SW) (v1 v2 : AV) (H : Heap) : Prop := ∃ q, v1 = .sl 1 (some q) (nx.map encS) ∧ ((nx = [] ∧ v2 = .nilO ∧ H = [(q, .tok)]) ∨
  (nx ≠ [] ∧ ∃ b, v2 = .osl b 0 nx.length 1 ∧ H = [(q, .tok), (b, .vec (wayV nx))]))
def c22 : Cfg := ⟨[0, 1, 2, 4, 5, 6, 7, 8, 9, 10, 11, 12, 13, 14, 15, 20, 30, 34, 42, 54, 66, 79, 85], [24], [], [], [(26, [0, 1, 2, 3, 4, 5, 6, 7, 8, 9, 10, 11, 12, 13], [])], []⟩
set_option maxHeartbeats 2000000 in
theorem refCount (l : Lst) (cells : List Cel) (out : Int) (F0 f0 : Nat) (hF0 : F0 ≤ 20000) (hl : LstFit l) (hc : CelsFit cells) (h : checkErr l cells = 0 → ∃ R, closeM cells F0 0 [(0, 0)] = some R ∧ R.length ≤ 1048576 ∧ cntR F0 cells l.signs.length f0 [(R, 1)] 0 = some out) :
    QCall Try.prog 22 [.agg (encLst l), .sl 3 none (cells.map encCel)] [] (.tup [.int .i64 (if checkErr l cells = 0 then out else 0), .int .i64 (checkErr l cells)]) := by
  have hls := hl.signs
  unfold LMAX at hls
  refine QCall.of' ?_
  refine fcalls (F := Try.f22) c22 rfl rfl rfl mixed rfl fun X => ?_
  conv => whnf
  repeat (refine QCall.k0 (refCheckW' l cells hl hc) ?_; conv => whnf)
  refine ⟨fun hd => ?_, fun hd => ?_⟩ <;> simp at hd
  · conv => whnf
    rw [if_neg hd]
  · obtain ⟨hcc, hr⟩ := check_ok hd hc
    obtain ⟨R, hR, hRl, hcnt⟩ := h hd
    have hcm : CMAX = 1099511627776 := rfl
    have hcl := hcc.len
    rw [if_pos hd, hd]
    conv => whnf
    repeat ((first | (refine ACalls.mono ?_ (closeSpots cells (by omega) F0 [(0, 0)] R nb (by simp; omega) hR)) | intro (nb : Nat)); conv => whnf)
    rintro v h' ⟨q, rfl, rfl⟩
    conv => whnf
    refine tloop rfl mixed [1, 2, 7, 8, 9] [] (fun m r h => ∃ (f : Nat) (sw : SW) (sum : Int), r = [(1, [], .sl 3 none (cells.map encCel)), (2, [], .iptr (encLst l)), (7, [], .sl 1 none (sw.map encS)), (8, [], .sl 1 none (sw.map encW)), (9, [], .int .i64 sum)] ∧ h = [] ∧ m = f ∧ SWok sw ∧ 0 ≤ sum ∧ sum ≤ CMAX ∧ cntR F0 cells l.signs.length f sw sum = some out) ?_ ?_
    · conv => whnf
      refine ⟨_, _, (Turn.weak (.cons (VLe.refl _) (.cons (VLe.refl _) (.cons (VLe.els (.cons (.cons VLe.sl .nil) .nil)) (RLe.refl _))))).trans (Turn.drop (.here _)), _, f0, [(R, 1)], 0, rfl, rfl, rfl, ?_, by omega, by omega, hcnt⟩
      intro x hx
      simp only [List.mem_singleton] at hx
      subst hx
      exact ⟨hRl, by simp only; omega, by simp only; omega⟩
    · rintro f rr hh ⟨_, sw, sum, rfl, rfl, rfl, hok, hs0, hs1, he⟩
      cases f with
      | zero => cases he
      | succ f =>
      rw [cntR] at he
      split at he
      · cases he
      rename_i hswl
      conv => whnf
      refine ⟨fun hf => ?_, fun hf => ?_⟩ <;> simp at hf
      · rw [if_neg (by intro e; subst e; simp at hf)] at he
        split at he
        · cases he
        rename_i nx0 sum0 hlay
        conv => whnf
        skip
        refine tloop rfl mixed [1, 2, 7, 8, 9, 10, 11, 12] [(10, 1)] (fun m r h => ∃ (i : Nat) (nx : SW) (sm : Int) (v1 v2 : AV) (H : Heap), r = [(1, [], .sl 3 none (cells.map encCel)), (2, [], .iptr (encLst l)), (7, [], .sl 1 none (sw.map encS)), (8, [], .sl 1 none (sw.map encW)), (9, [], .int .i64 sm), (10, [], v1), (11, [], v2), (12, [], .int .i64 i)] ∧ h = H ∧ m = sw.length - i ∧ i ≤ sw.length ∧ SWok nx ∧ 0 ≤ sm ∧ sm ≤ CMAX ∧ NM nx v1 v2 H ∧ layGo F0 cells l.signs.length (sw.drop i) nx sm = some (nx0, sum0)) ?_ ?_
        · conv => whnf
          refine ⟨by decide, fun q => ?_⟩
          conv => whnf
          exact ⟨_, _, Turn.weak (.cons (VLe.refl _) (.cons (VLe.refl _) (.cons (VLe.refl _) (.cons (VLe.refl _) (.cons (VLe.refl _) (.cons (VLe.refl _) (.cons nil_le_nilO (RLe.refl _)))))))), _, 0, [], sum, _, .nilO, _, rfl, rfl, rfl, by omega, (fun x hx => by cases hx), hs0, hs1, ⟨q, rfl, .inl ⟨rfl, rfl, rfl⟩⟩, hlay⟩
        · rintro mm rr hh ⟨i, nx, sm, v1, v2, H, rfl, rfl, rfl, hi, hnx, hm0, hm1, hnm, hx⟩
          conv => whnf
          refine ⟨fun hf1 => ?_, fun hf1 => ?_⟩ <;> simp at hf1
          · obtain ⟨x, hxi⟩ := get_lt hf1
            obtain ⟨hxl, hx0, hx1⟩ := hok x (List.mem_of_getElem? hxi)
            rw [drop_cons hxi, layGo] at hx
            split at hx
            · cases hx
            rename_i hxF
            split at hx
            · cases hx
            rename_i nx2 hsg
            conv => whnf
            repeat ((first | refine ix (by assumption) ?_ | refine QCall.k0 (overR cells x.1 (by unfold LMAX; omega)) ?_); conv => whnf)
            apply byKeyQ (fun sm2 : Int => 0 ≤ sm2 ∧ sm2 ≤ CMAX ∧ layGo F0 cells l.signs.length (sw.drop (i + 1)) nx2 sm2 = some (nx0, sum0))
            · intro key
              refine ⟨fun hov => ?_, fun hov => ?_⟩
              · rw [if_pos hov] at hx
                conv => whnf
                repeat ((first | refine ⟨gP_of ⟨by omega, by omega⟩, ?_⟩ | refine ix (by assumption) ?_); conv => whnf)
                obtain ⟨sm2, hsm2⟩ : ∃ sm2, sm2 = min (sm + x.2) CMAX := ⟨_, rfl⟩
                rw [← hsm2] at hx
                rw [show min (sm + x.2) 1099511627776 = sm2 from hsm2.symm]
                exact key sm2 ⟨by omega, by omega, hx⟩
              · rw [if_neg (by rw [hov]; decide)] at hx
                conv => whnf
                skip
                exact holds_up rfl (key sm ⟨hm0, hm1, hx⟩)
            · rintro sm2 ⟨hn0, hn1, hx⟩
              refine tloop rfl mixed [1, 2, 7, 8, 9, 10, 11, 12, 13] [] (fun m r h => ∃ (g : Nat) (nx : SW) (v1 v2 : AV) (H : Heap), r = [(1, [], .sl 3 none (cells.map encCel)), (2, [], .iptr (encLst l)), (7, [], .sl 1 none (sw.map encS)), (8, [], .sl 1 none (sw.map encW)), (9, [], .int .i64 sm2), (10, [], v1), (11, [], v2), (12, [], .int .i64 i), (13, [], .int .i64 g)] ∧ h = H ∧ m = l.signs.length - g ∧ g ≤ l.signs.length ∧ SWok nx ∧ NM nx v1 v2 H ∧ sgGo F0 cells x.1 x.2 ((upto l.signs.length).drop g) nx = some nx2) ?_ ?_
              · conv => whnf
                exact ⟨_, _, Turn.refl _ _, _, 0, nx, v1, v2, _, rfl, rfl, rfl, by omega, hnx, hnm, hsg⟩
              · rintro m3 r3 h3 ⟨g, nx, v1, v2, H, rfl, rfl, rfl, hg, hnx, hnm, hsg⟩
                conv => whnf
                refine ⟨fun hf2 => ?_, fun hf2 => ?_⟩ <;> simp at hf2
                · have hup := upto_get (n := (l.signs.length : Int)) (i := g) (by omega)
                  rw [drop_cons hup, sgGo] at hsg
                  split at hsg
                  · cases hsg
                  rename_i s hadv
                  split at hsg
                  · cases hsg
                  rename_i hsl
                  conv => whnf
                  repeat ((first | refine ix (by assumption) ?_ | refine QCall.k0 (advance cells hcc F0 x.1 s g (by omega) hadv) ?_); conv => whnf)
                  by_cases hs0 : s = []
                  · rw [if_pos hs0] at hsg
                    refine cT (by rw [hs0]; rfl) ?_
                    conv => whnf
                    repeat (refine ⟨gP_of ⟨by omega, by omega⟩, ?_⟩; conv => whnf)
                    exact ⟨_, _, Turn.refl _ _, _, by omega, g + 1, nx, v1, v2, _, rfl, rfl, rfl, by omega, hnx, hnm, hsg⟩
                  · rw [if_neg hs0] at hsg
                    refine cF (by cases s with | nil => exact absurd rfl hs0 | cons _ _ => simp; omega) ?_
                    have hwi : (encW x : List AV) = [.int .i64 x.2] := rfl
                    conv => whnf
                    skip
                    obtain ⟨q, hv1, hnm2⟩ := id hnm
                    subst hv1
                    rcases hnm2 with ⟨rfl, rfl, rfl⟩ | ⟨hne, b, rfl, rfl⟩
                    · refine sloop rfl mixed [1, 2, 7, 8, 9, 10, 11, 12, 13, 14, 15] [] (fun m r h => r = [(1, [], .sl 3 none (cells.map encCel)), (2, [], .iptr (encLst l)), (7, [], .sl 1 none (sw.map encS)), (8, [], .sl 1 none (sw.map encW)), (9, [], .int .i64 sm2), (10, [], .sl 1 (some q) (([] : SW).map encS)), (11, [], .nilO), (12, [], .int .i64 i), (13, [], .int .i64 g), (14, [], .sl 2 none (s.map encPos)), (15, [], .int .i64 0)] ∧ h = [(q, .tok)] ∧ m = 0 ∧ True) ?_ ?_
                      · conv => whnf
                        exact ⟨_, rfl, rfl, rfl, trivial⟩
                      · rintro m4 r4 h4 ⟨rfl, rfl, rfl, _⟩
                        conv => whnf
                        repeat ((first | (refine ixg (([] : List Pos), (0 : Int)) ?_ ?_; (focus (conv => whnf; skip)); (focus (intro g1; cases g1))) | refine gcall (sameR [] s (by decide) (by unfold LMAX; omega)) ?_); conv => whnf)
                        refine cF (by rfl) ?_
                        conv => whnf
                        skip
                        refine cT (by rfl) ?_
                        conv => whnf
                        repeat ((first | (refine ⟨(by show 1 ≤ 4294967296; omega), fun q' => ⟨_, .here _, ?_⟩⟩) | (refine ⟨⟨by show 0 < 1; omega, by show 1 ≤ 4294967296; omega⟩, fun o => ?_⟩)
                                       | refine And.intro (by show drawOK (opsAt Try.f22 _) _ = true; decide +kernel) ?_); conv => whnf)
                        repeat ((first | refine ⟨gP_of ⟨by omega, by omega⟩, ?_⟩ | refine ix (by assumption) ?_ | (refine ixo (i := 0) (by decide) ?_) | (refine ldo (v := .int .i64 0) (.head _) rfl rfl ?_)
                                       | (refine sto (by decide) (.here _) ?_)); conv => whnf)
                        exact ⟨_, _, Turn.perm (.swap _ _ _), _, by omega, g + 1, putM s x.2 [], _, _, _, rfl, rfl, rfl, by omega, putM_ok (by omega) hx0 hnx, ⟨q', rfl, .inr ⟨by simp [putM], o, rfl, rfl⟩⟩, hsg⟩
                    · have hgl : ∀ k, (nx.getD k (([] : List Pos), (0 : Int))).1.length ≤ 1048576 := by
                        intro k
                        by_cases hk : k < nx.length
                        · rw [getD_lt hk]; exact (hnx _ (List.getElem_mem hk)).1
                        · simp [List.getD, List.getElem?_eq_none (show nx.length ≤ k by omega)]
                      refine sloop rfl mixed [1, 2, 7, 8, 9, 10, 11, 12, 13, 14, 15] [] (fun m r h => ∃ (k : Nat), r = [(1, [], .sl 3 none (cells.map encCel)), (2, [], .iptr (encLst l)), (7, [], .sl 1 none (sw.map encS)), (8, [], .sl 1 none (sw.map encW)), (9, [], .int .i64 sm2), (10, [], .sl 1 (some q) (nx.map encS)), (11, [], .osl b 0 nx.length 1), (12, [], .int .i64 i), (13, [], .int .i64 g), (14, [], .sl 2 none (s.map encPos)), (15, [], .int .i64 k)] ∧ h = [(q, .tok), (b, .vec (wayV nx))] ∧ m = nx.length - k ∧ k ≤ nx.length ∧ ∀ (j : Nat) y, j < k → nx[j]? = some y → sameB y.1 s = false) ?_ ?_
                      · conv => whnf
                        exact ⟨_, 0, rfl, rfl, rfl, by omega, fun j y hj => by omega⟩
                      · rintro m4 r4 h4 ⟨k, rfl, rfl, rfl, hk, hbef⟩
                        conv => whnf
                        repeat ((first | (refine ixg (([] : List Pos), (0 : Int)) ?_ ?_; (focus (conv => whnf; skip)); (focus (intro g1; have g1 := of_decide_eq_true g1; rw [List.length_map] at g1; show 0 ≤ _ ∧ _ < _; omega)))
                                       | refine gcall (sameR (nx.getD k (([] : List Pos), (0 : Int))).1 s (by unfold LMAX; have := hgl k; omega) (by unfold LMAX; omega)) ?_); conv => whnf)
                        have hkn : ((decide ((k : Int) < ((nx.map encS).length : Int))) && !sameB (nx.getD k (([] : List Pos), (0 : Int))).1 s) = (decide (k < nx.length) && !sameB (nx.getD k (([] : List Pos), (0 : Int))).1 s) := by
                          rw [List.length_map]; congr 1; rw [decide_eq_decide]; omega
                        rw [hkn]
                        refine ⟨fun hb => ?_, fun hb => ?_⟩
                        · obtain ⟨hb1, hb2⟩ := Bool.and_eq_true_iff.1 hb
                          have hb1 := of_decide_eq_true hb1
                          conv => whnf
                          repeat (refine ⟨gP_of ⟨by omega, by omega⟩, ?_⟩; conv => whnf)
                          refine ⟨_, by omega, k + 1, rfl, rfl, rfl, by omega, fun j y hj hy => ?_⟩
                          by_cases e : j = k
                          · subst e
                            rw [show nx.getD j (([] : List Pos), (0 : Int)) = y from by simp [List.getD, hy]] at hb2
                            simpa using hb2
                          · exact hbef j y (by omega) hy
                        · by_cases hkl : k = nx.length
                          · subst hkl
                            have hmiss := putM_miss (w := x.2) (fun y hy => by
                              obtain ⟨j, hj⟩ := List.mem_iff_getElem?.1 hy
                              exact hbef j y (List.getElem?_eq_some_iff.1 hj).1 hj)
                            conv => whnf
                            skip
                            refine cT (by rw [List.length_map]; simp) ?_
                            conv => whnf
                            repeat ((first | (refine ⟨(by rw [List.length_append, List.length_map]; show _ + 1 ≤ 4294967296; omega), fun q' => ⟨_, .here _, ?_⟩⟩) | (refine ⟨_, .tail _ (.head _), ⟨by simp [wayV], by show _ + 1 ≤ 4294967296; omega⟩, fun o' => ⟨_, .there (.here _), ?_⟩⟩)
                                           | refine And.intro (by show drawOK (opsAt Try.f22 _) _ = true; decide +kernel) ?_); conv => whnf)
                            have hwl : (wayV nx ++ [AV.int .i64 0])[nx.length]? = some (.int .i64 0) := by rw [List.getElem?_append_right (by simp [wayV])]; simp [wayV]
                            repeat ((first | refine ⟨gP_of ⟨by omega, by omega⟩, ?_⟩ | refine ix (by assumption) ?_ | (refine ixo (i := nx.length) (by show _ < _ + 1; omega) ?_) | (refine ldo (v := .int .i64 0) (.tail _ (.head _)) rfl (by rw [Nat.zero_add, Nat.mul_one]; exact hwl) ?_)
                                           | (refine sto (by rw [Nat.zero_add, Nat.mul_one]; simp [wayV]) (.there (.here _)) ?_)); conv => whnf)
                            refine ⟨_, _, Turn.refl _ _, _, by omega, g + 1, putM s x.2 nx, _, _, _, rfl, rfl, rfl, by omega, putM_ok (by omega) hx0 hnx, ⟨q', by rw [hmiss, List.map_append]; rfl, .inr ⟨by rw [hmiss]; simp, o', by rw [hmiss, List.length_append]; rfl, ?_⟩⟩, hsg⟩
                            rw [hmiss, Nat.zero_add, Nat.mul_one]
                            unfold wayV
                            rw [show ([[AV.int .i64 0]] : List (List AV)).flatten = [AV.int .i64 0] from rfl, List.map_append, List.set_append_right _ _ (by simp)]
                            simp
                            rfl
                          · have hkl2 : k < nx.length := by omega
                            have hsame : sameB (nx.getD k (([] : List Pos), (0 : Int))).1 s = true := by simpa [hkl2, -List.getD_eq_getElem?_getD] using hb
                            conv => whnf
                            skip
                            refine cF (by rw [List.length_map]; simp; omega) ?_
                            conv => whnf
                            repeat (refine And.intro (by show drawOK (opsAt Try.f22 _) _ = true; decide +kernel) ?_; conv => whnf)
                            obtain ⟨y, hy⟩ := get_lt hkl2
                            have hyk : nx.getD k (([] : List Pos), (0 : Int)) = y := by simp [List.getD, hy]
                            rw [hyk] at hsame
                            have hhit := putM_hit (w := x.2) hbef hy hsame
                            obtain ⟨hy0, hy1⟩ := (hnx y (List.mem_of_getElem? hy)).2
                            have hwl : (wayV nx)[k]? = some (.int .i64 y.2) := by simp [wayV, hy]
                            repeat ((first | refine ⟨gP_of ⟨by omega, by omega⟩, ?_⟩ | refine ix (by assumption) ?_ | (refine ixo (i := k) (by omega) ?_) | (refine ldo (v := .int .i64 y.2) (.tail _ (.head _)) rfl (by rw [Nat.zero_add, Nat.mul_one]; exact hwl) ?_)
                                           | (refine sto (by rw [Nat.zero_add, Nat.mul_one]; simp [wayV]; omega) (.there (.here _)) ?_)); conv => whnf)
                            refine ⟨_, _, Turn.refl _ _, _, by omega, g + 1, putM s x.2 nx, _, _, _, rfl, rfl, rfl, by omega, putM_ok (by omega) hx0 hnx, ⟨q, ?_, .inr ⟨by rw [hhit]; simpa using hne, b, by rw [hhit, List.length_set], ?_⟩⟩, hsg⟩
                            · congr 1
                              rw [hhit]
                              refine List.ext_getElem? fun j => ?_
                              rw [List.getElem?_map, List.getElem?_map, List.getElem?_set]
                              by_cases e : k = j
                              · subst e; simp [hkl2, encS, (List.getElem?_eq_some_iff.1 hy).2]
                              · rw [if_neg e]
                            · rw [hhit, Nat.zero_add, Nat.mul_one]
                              unfold wayV
                              rw [List.map_set]
                              rfl
                · rw [drop_nil (by rw [upto_len]; omega), sgGo] at hsg
                  cases hsg
                  obtain ⟨q, rfl, hnm2⟩ := hnm
                  conv => whnf
                  repeat (refine ⟨gP_of ⟨by omega, by omega⟩, ?_⟩; conv => whnf)
                  exact ⟨_, _, Turn.refl _ _, _, by omega, i + 1, _, sm2, _, v2, _, rfl, rfl, rfl, by omega, hnx, hn0, hn1, ⟨q, rfl, hnm2⟩, hx⟩
          · rw [drop_nil hf1, layGo] at hx
            obtain ⟨rfl, rfl⟩ : nx = nx0 ∧ sm = sum0 := by simpa using hx
            conv => whnf
            skip
            obtain ⟨q, rfl, hnm2⟩ := hnm
            rcases hnm2 with ⟨rfl, rfl, rfl⟩ | ⟨hne, b, rfl, rfl⟩
            · refine ⟨_, _, (Turn.weak (.cons (VLe.refl _) (.cons (VLe.refl _) (.cons VLe.sl (.cons (y := .sl 1 none []) ?_ (RLe.refl _)))))).trans (Turn.drop (.here _)), f, by omega, f, [], sm, rfl, rfl, rfl, hnx, hm0, hm1, he⟩
              intro c u hu
              simp only [Rep] at hu
              exact VLe.nil (k := 1) (by decide) c u (by simpa [Rep] using hu)
            · refine ⟨_, _, (Turn.freeze (.there (.here _)) (FzH.refl _) (.cons (.refl _) (.cons (.refl _) (.cons (.le VLe.sl) (.cons (fzRow (ev := fun x : List Pos × Int => AV.int .i64 x.2) rfl) (FzR.refl _)))))).trans (Turn.drop (.here _)), f, by omega, f, nx, sm, rfl, rfl, rfl, hnx, hm0, hm1, he⟩
      · have hsw : sw = [] := hf
        rw [if_pos hsw] at he
        cases he
        conv => whnf
end Go.Abs.Wall
set_option maxRecDepth 100000
set_option linter.unusedVariables false
namespace Go.Abs.Wall
open Go Go.Abs Go.Proofs
/-! ### theory: the sets of the specification -/
theorem nodup_sub {α : Type} [DecidableEq α] : ∀ {l m : List α}, l.Nodup → (∀ x ∈ l, x ∈ m) → l.length ≤ m.length
  | [], m, _, _ => Nat.zero_le _
  | x :: l, m, hn, h => by
    have hx : x ∈ m := h x (by simp)
    rw [List.nodup_cons] at hn
    have := nodup_sub (l := l) (m := m.erase x) hn.2 fun y hy => (List.mem_erase_of_ne (fun e => hn.1 (by subst e; exact hy))).2 (h y (by simp [hy]))
    rw [List.length_erase_of_mem hx] at this
    have := List.length_pos_of_mem hx
    simp only [List.length_cons]; omega
theorem nodup_back {α : Type} [DecidableEq α] {l m : List α} (hl : l.Nodup) (h : ∀ x ∈ l, x ∈ m) (hle : m.length ≤ l.length) : ∀ x ∈ m, x ∈ l := by
  intro y hy
  refine Classical.byContradiction fun hn => ?_
  have := nodup_sub (m := m.erase y) hl fun x hx => (List.mem_erase_of_ne (fun e => hn (by subst e; exact hx))).2 (h x hx)
  rw [List.length_erase_of_mem hy] at this
  have := List.length_pos_of_mem hy
  omega
/-- the positions that a sign leads to -/
def LPg : List Cel → Int → List Pos
  | [], _ => []
  | c :: cs, i => (List.range c.mx.toNat).map (fun (k : Nat) => (i, (k : Int) + 1)) ++ LPg cs (i + 1)
theorem LPg_len : ∀ (cs : List Cel) (i : Int), (∀ c ∈ cs, 0 ≤ c.mx) → ((LPg cs i).length : Int) = (cs.map (·.mx)).sum
  | [], i, _ => rfl
  | c :: cs, i, h => by
    have h1 := LPg_len cs (i + 1) fun d hd => h d (by simp [hd])
    have h2 := h c (by simp)
    rw [LPg, List.length_append, List.length_map, List.length_range, List.map_cons, List.sum_cons]; omega
theorem mem_LPg : ∀ (cs : List Cel) (i : Int) (j : Nat) (c : Cel) (k : Int), cs[j]? = some c → 1 ≤ k → k ≤ c.mx → (i + j, k) ∈ LPg cs i
  | [], i, j, c, k, h, _, _ => by simp at h
  | d :: cs, i, 0, c, k, h, h1, h2 => by
    rw [List.getElem?_cons_zero] at h
    cases h
    rw [LPg, List.mem_append]
    exact .inl (List.mem_map.2 ⟨(k - 1).toNat, List.mem_range.2 (by omega), by congr 1 <;> omega⟩)
  | d :: cs, i, j + 1, c, k, h, h1, h2 => by
    rw [List.getElem?_cons_succ] at h
    have := mem_LPg cs (i + 1) j c k h h1 h2
    rw [LPg, List.mem_append]
    right
    rw [show i + ((j + 1 : Nat) : Int) = i + 1 + j from by omega]; exact this
theorem LP_of {cells : List Cel} {p : Pos} (hp : PV_ cells p) (h1 : 1 ≤ p.2) : p ∈ LPg cells 0 := by
  rcases hp with rfl | ⟨c, h0, hc, _, h2⟩
  · simp at h1
  · have := mem_LPg cells 0 p.1.toNat c p.2 hc h1 h2
    rw [show (0 : Int) + (p.1.toNat : Int) = p.1 from by omega] at this; exact this
/-- a closed list of spots -/
structure CR (cells : List Cel) (l R : List Pos) : Prop where
  sub : ∀ p ∈ l, p ∈ R
  pv : ∀ p ∈ R, PV_ cells p
  nodup : R.Nodup
  cl : Clsd cells R
  gen : ∀ p ∈ R, p ∈ l ∨ ∃ q ∈ R, ∃ c, 0 ≤ q.1 ∧ cells[q.1.toNat]? = some c ∧ c.mn ≤ q.2 ∧ p = (q.1 + 1, 0)
def phR (cells : List Cel) (p : Pos) : Nat := (cells.length - p.1.toNat) + 1
def phRs (cells : List Cel) (l : List Pos) : Nat := (l.map (phR cells)).sum
theorem phRs_le (cells : List Cel) : ∀ l : List Pos, phRs cells l ≤ l.length * (cells.length + 1)
  | [] => by simp [phRs]
  | p :: l => by
    have := phRs_le cells l
    unfold phRs at this ⊢
    rw [List.map_cons, List.sum_cons, List.length_cons, Nat.succ_mul]
    unfold phR at this ⊢; omega
theorem phRs_app (cells : List Cel) (a b : List Pos) : phRs cells (a ++ b) = phRs cells a + phRs cells b := by unfold phRs; rw [List.map_append, List.sum_append]
theorem closeM_spec {cells : List Cel} (hm : ∀ c ∈ cells, 0 ≤ c.mx) : ∀ (f i : Nat) (l : List Pos), (∀ p ∈ l, PV_ cells p) → l.Nodup → phRs cells (l.drop i) ≤ f →
    (∀ j, j < i → ∀ p, l[j]? = some p → ∀ c, 0 ≤ p.1 → cells[p.1.toNat]? = some c → c.mn ≤ p.2 → (p.1 + 1, (0 : Int)) ∈ l) → ∃ R, closeM cells f i l = some R ∧ CR cells l R ∧ R.length ≤ l.length + f
  | 0, i, l, hv, hn, hf, hp => by
    have hi : l.length ≤ i := by
      cases hd : l.drop i with
      | nil => exact List.drop_eq_nil_iff.1 hd
      | cons p t => rw [hd] at hf; simp [phRs, phR] at hf
    refine ⟨l, by rw [closeM, if_pos hi], ⟨fun p h => h, hv, hn, fun p hpm c h0 h1 h2 => ?_, fun p h => .inl h⟩, Nat.le_refl _⟩
    obtain ⟨j, hj, e⟩ := List.getElem_of_mem hpm
    exact hp j (by omega) p (by rw [List.getElem?_eq_getElem hj, e]) c h0 h1 h2
  | f + 1, i, l, hv, hn, hf, hp => by
    rw [closeM]
    cases hs : l[i]? with
    | none =>
      have hi : l.length ≤ i := List.getElem?_eq_none_iff.1 hs
      refine ⟨l, rfl, ⟨fun p h => h, hv, hn, fun p hpm c h0 h1 h2 => ?_, fun p h => .inl h⟩, by omega⟩
      obtain ⟨j, hj, e⟩ := List.getElem_of_mem hpm
      exact hp j (by omega) p (by rw [List.getElem?_eq_getElem hj, e]) c h0 h1 h2
    | some s =>
      have hsm := List.mem_of_getElem? hs
      have hsv := hv s hsm
      have hil := (List.getElem?_eq_some_iff.1 hs).1
      rw [drop_cons hs] at hf
      have hf : phR cells s + phRs cells (l.drop (i + 1)) ≤ f + 1 := by unfold phRs at hf ⊢; rw [List.map_cons, List.sum_cons] at hf; exact hf
      simp only
      rcases hsv with rfl | ⟨c, h0, hc, h1, h2⟩
      · rw [if_neg (by simp), if_pos (.inl rfl)]
        obtain ⟨R, e, hR, hl⟩ := closeM_spec hm f (i + 1) l hv hn (by unfold phR at hf; omega) (fun j hj p hpj c h0 h1 h2 => by
          by_cases hji : j = i
          · subst hji; rw [hs] at hpj; cases hpj
            have := (List.getElem?_eq_some_iff.1 h1).1; simp at this
          · exact hp j (by omega) p hpj c h0 h1 h2)
        exact ⟨R, e, hR, by omega⟩
      · have hlt := (List.getElem?_eq_some_iff.1 hc).1
        have hgd : cells.getD s.1.toNat c0_ = c := by simp [List.getD, hc]
        rw [if_neg (by omega), hgd]
        by_cases hmn : s.2 < c.mn
        · rw [if_pos (.inr hmn)]
          obtain ⟨R, e, hR, hl⟩ := closeM_spec hm f (i + 1) l hv hn (by unfold phR at hf; omega) (fun j hj p hpj d h0 h1 h2 => by
            by_cases hji : j = i
            · subst hji; rw [hs] at hpj; cases hpj
              rw [hc] at h1; cases h1; omega
            · exact hp j (by omega) p hpj d h0 h1 h2)
          exact ⟨R, e, hR, by omega⟩
        · rw [if_neg (by omega)]
          have hnx : PV_ cells (s.1 + 1, 0) := PV_next hm h0 hc
          by_cases hin : (s.1 + 1, (0 : Int)) ∈ l
          · rw [if_pos hin]
            obtain ⟨R, e, hR, hl⟩ := closeM_spec hm f (i + 1) l hv hn (by unfold phR at hf; omega) (fun j hj p hpj d h0 h1 h2 => by
              by_cases hji : j = i
              · subst hji; rw [hs] at hpj; cases hpj; exact hin
              · exact hp j (by omega) p hpj d h0 h1 h2)
            exact ⟨R, e, hR, by omega⟩
          · rw [if_neg hin]
            obtain ⟨R, e, hR, hl⟩ := closeM_spec hm f (i + 1) (l ++ [(s.1 + 1, 0)]) (fun p hp => by
                rcases List.mem_append.1 hp with h | h
                · exact hv p h
                · simp at h; subst h; exact hnx)
              (by rw [List.nodup_append]; exact ⟨hn, by simp, fun a ha b hb e => by simp at hb; subst hb; subst e; exact hin ha⟩)
              (by rw [List.drop_append_of_le_length (by omega), phRs_app]
                  have : phRs cells [(s.1 + 1, (0 : Int))] = phR cells (s.1 + 1, 0) := by simp [phRs]
                  rw [this]; unfold phR at hf ⊢; simp only; omega) (fun j hj p hpj d g0 g1 g2 => by
              rw [List.mem_append]
              by_cases hji : j = i
              · subst hji; rw [List.getElem?_append_left hil, hs] at hpj; cases hpj; exact .inr (by simp)
              · rw [List.getElem?_append_left (by omega)] at hpj
                exact .inl (hp j (by omega) p hpj d g0 g1 g2))
            refine ⟨R, e, ⟨fun p hp => hR.sub p (by simp [hp]), hR.pv, hR.nodup, hR.cl, fun p hp => ?_⟩, by rw [List.length_append] at hl; simp at hl; omega⟩
            rcases hR.gen p hp with h | h
            · rcases List.mem_append.1 h with h | h
              · exact .inl h
              · simp at h; exact .inr ⟨s, hR.sub s (by simp [hsm]), c, h0, hc, by omega, h⟩
            · exact .inr h
theorem CR.closes {cells : List Cel} {l R : List Pos} (h : CR cells l R) : Closes cells l R := by
  refine ⟨h.sub, h.pv, h.cl, fun p hp w ha => ?_⟩
  have key : ∀ (n : Nat) (p : Pos), p ∈ R → p.1.toNat ≤ n → accP cells p w = true → AccL cells l w = true := by
    intro n
    induction n with
    | zero =>
      intro p hp hn ha
      rcases h.gen p hp with h1 | ⟨q, hq, c, h0, hc, h2, rfl⟩
      · exact AccL_iff.2 ⟨p, h1, ha⟩
      · simp only at hn; omega
    | succ n ih =>
      intro p hp hn ha
      rcases h.gen p hp with h1 | ⟨q, hq, c, h0, hc, h2, rfl⟩
      · exact AccL_iff.2 ⟨p, h1, ha⟩
      · exact ih q hq (by simp only at hn; omega) (accP_eps h0 hc h2 ha)
  exact key _ p hp (Nat.le_refl _) ha
theorem stepR_eq {cells : List Cel} {s : Int} (hg : ∀ c ∈ cells, c.mx ≤ 9) : ∀ {l : List Pos}, (∀ p ∈ l, PV_ cells p) → stepR cells s l = some (stepL cells s l)
  | [], _ => rfl
  | p :: l, h => by
    have ih := stepR_eq hg (l := l) (s := s) fun q hq => h q (by simp [hq])
    rw [stepR, ih]
    unfold stepL
    rw [List.filterMap_cons]
    rcases h p (by simp) with rfl | ⟨c, h0, hc, h1, h2⟩
    · rw [if_neg (by simp), if_pos (.inl rfl), if_neg (by simp)]
    · have hlt := (List.getElem?_eq_some_iff.1 hc).1
      have hgd : cells.getD p.1.toNat c0_ = c := by simp [List.getD, hc]
      have h9 := hg c (List.mem_of_getElem? hc)
      rw [if_neg (by omega), hgd, getD_of hc]
      by_cases hcond : p.2 < c.mx ∧ allows c s = true
      · rw [if_neg (by rintro (h | h | h); omega; omega; rw [hcond.2] at h; cases h), if_pos ⟨by omega, hcond⟩]; rfl
      · rw [if_pos (by
          by_cases ha : allows c s = true
          · exact .inr (.inl (by have : ¬ p.2 < c.mx := fun h => hcond ⟨h, ha⟩; omega))
          · exact .inr (.inr (by simpa using ha))), if_neg (fun h => hcond h.2)]
theorem stepL_nodup {cells : List Cel} {s : Int} {l : List Pos} (h : l.Nodup) : (stepL cells s l).Nodup := by
  unfold stepL
  rw [List.nodup_iff_pairwise_ne] at *
  refine List.Pairwise.filterMap _ (fun a a' hne b hb b' hb' e => ?_) h
  split at hb
  · split at hb'
    · cases hb; subst e
      rw [Option.some.injEq, Prod.mk.injEq] at hb'
      exact hne (Prod.ext (by omega) (by omega))
    · cases hb'
  · cases hb
end Go.Abs.Wall
set_option maxRecDepth 100000
set_option linter.unusedVariables false
namespace Go.Abs.Wall
open Go Go.Abs Go.Proofs
/-! ### theory: the count of the specification -/
/-- a set of the search at depth r: closed, apart, with at most M - r signs to come -/
structure SI (cells : List Cel) (M : Int) (r : Int) (S : List Pos) : Prop where
  pv : ∀ p ∈ S, PV_ cells p
  nodup : S.Nodup
  cl : Clsd cells S
  mu : ∀ p ∈ S, mu cells p + r ≤ M
  len : S.length ≤ 20000
/-- a set that a sign leads to -/
def GenS (cells : List Cel) (S : List Pos) : Prop := ∀ p ∈ S, 1 ≤ p.2 ∨ ∃ q ∈ S, ∃ c, 0 ≤ q.1 ∧ cells[q.1.toNat]? = some c ∧ c.mn ≤ q.2 ∧ p = (q.1 + 1, 0)
theorem GenS.sub {cells : List Cel} {S T : List Pos} (h : GenS cells S) (hc : Clsd cells T) (hl : ∀ p ∈ S, 1 ≤ p.2 → p ∈ T) : ∀ p ∈ S, p ∈ T := by
  intro p hp
  have key : ∀ (n : Nat) (p : Pos), p ∈ S → p.1.toNat ≤ n → p ∈ T := by
    intro n
    induction n with
    | zero =>
      intro p hp hn
      rcases h p hp with h1 | ⟨q, hq, c, h0, hcc, h2, rfl⟩
      · exact hl p hp h1
      · simp only at hn; omega
    | succ n ih =>
      intro p hp hn
      rcases h p hp with h1 | ⟨q, hq, c, h0, hcc, h2, rfl⟩
      · exact hl p hp h1
      · exact hc q (ih q hq (by simp only at hn; omega)) c h0 hcc h2
  exact key _ p hp (Nat.le_refl _)
def codeS (cells : List Cel) (S : List Pos) : List Bool := (LPg cells 0).map fun p => decide (p ∈ S)
theorem code_mem {cells : List Cel} {S T : List Pos} (hv : ∀ p ∈ S, PV_ cells p) (h : codeS cells S = codeS cells T) : ∀ p ∈ S, 1 ≤ p.2 → p ∈ T := by
  intro p hp h1
  have hm := LP_of (hv p hp) h1
  unfold codeS at h
  have := List.map_inj_left.1 h p hm
  simpa [hp] using this
theorem code_same {cells : List Cel} {M r : Int} {S T : List Pos} (hS : SI cells M r S) (hT : SI cells M r T) (gS : GenS cells S) (gT : GenS cells T) (h : codeS cells S = codeS cells T) : sameB S T = true := by
  have h1 := gS.sub hT.cl (code_mem hS.pv h)
  have h2 := gT.sub hS.cl (code_mem hT.pv h.symm)
  have l1 := nodup_sub hS.nodup h1
  have l2 := nodup_sub hT.nodup h2
  unfold sameB
  rw [Bool.and_eq_true, decide_eq_true_eq, List.all_eq_true]
  exact ⟨by omega, fun x hx => by simpa using h1 x hx⟩
theorem same_acc {cells : List Cel} {S T : List Pos} (hS : S.Nodup) (h : sameB S T = true) (w : List Int) : AccL cells S w = AccL cells T w := by
  unfold sameB at h
  rw [Bool.and_eq_true, decide_eq_true_eq, List.all_eq_true] at h
  have h1 : ∀ x ∈ S, x ∈ T := fun x hx => by simpa using h.2 x hx
  have h2 := nodup_back hS h1 (by omega)
  rw [Bool.eq_iff_iff, AccL_iff, AccL_iff]
  exact ⟨fun ⟨p, hp, ha⟩ => ⟨p, h1 p hp, ha⟩, fun ⟨p, hp, ha⟩ => ⟨p, h2 p hp, ha⟩⟩
def bits : Nat → List (List Bool)
  | 0 => [[]]
  | d + 1 => (bits d).map (true :: ·) ++ (bits d).map (false :: ·)
theorem bits_len : ∀ d, (bits d).length = 2 ^ d
  | 0 => rfl
  | d + 1 => by rw [bits, List.length_append, List.length_map, List.length_map, bits_len d, Nat.pow_succ]; omega
theorem mem_bits : ∀ l : List Bool, l ∈ bits l.length
  | [] => by simp [bits]
  | true :: l => by rw [List.length_cons, bits, List.mem_append]; exact .inl (List.mem_map.2 ⟨l, mem_bits l, rfl⟩)
  | false :: l => by rw [List.length_cons, bits, List.mem_append]; exact .inr (List.mem_map.2 ⟨l, mem_bits l, rfl⟩)
/-- the next depth's sets -/
structure NX (cells : List Cel) (M r : Int) (nx : SW) : Prop where
  si : ∀ x ∈ nx, SI cells M r x.1 ∧ GenS cells x.1 ∧ 0 ≤ x.2 ∧ x.1 ≠ []
  ne : nx.Pairwise fun a b => sameB a.1 b.1 = false
theorem NX.len {cells : List Cel} {M r : Int} {nx : SW} (h : NX cells M r nx) (hl : (LPg cells 0).length ≤ 14) : nx.length ≤ 16384 := by
  have hn : (nx.map fun x => codeS cells x.1).Nodup := by
    rw [List.nodup_iff_pairwise_ne, List.pairwise_map]
    refine h.ne.imp_of_mem fun {a b} ha hb hab e => ?_
    have h1 := h.si a ha; have h2 := h.si b hb
    rw [code_same h1.1 h2.1 h1.2.1 h2.2.1 e] at hab
    cases hab
  have := nodup_sub (m := bits (LPg cells 0).length) hn fun c hc => by
    obtain ⟨x, _, rfl⟩ := List.mem_map.1 hc
    have := mem_bits (codeS cells x.1)
    rwa [show (codeS cells x.1).length = (LPg cells 0).length from by simp [codeS]] at this
  rw [List.length_map, bits_len] at this
  have h2 : 2 ^ (LPg cells 0).length ≤ 2 ^ 14 := Nat.pow_le_pow_right (by decide) hl
  have h3 : 2 ^ 14 = 16384 := by decide
  omega
theorem putM_mem {s : List Pos} {w : Int} : ∀ {nx : SW} {x : List Pos × Int}, x ∈ putM s w nx → x.1 = s ∨ ∃ y ∈ nx, y.1 = x.1
  | [], x, h => by simp only [putM, List.mem_singleton] at h; subst h; exact .inl rfl
  | y :: nx, x, h => by
    rw [putM] at h
    split at h
    · rcases List.mem_cons.1 h with rfl | h
      · exact .inr ⟨y, by simp, rfl⟩
      · exact .inr ⟨x, by simp [h], rfl⟩
    · rcases List.mem_cons.1 h with rfl | h
      · exact .inr ⟨x, by simp, rfl⟩
      · rcases putM_mem h with h | ⟨z, hz, e⟩
        · exact .inl h
        · exact .inr ⟨z, by simp [hz], e⟩
theorem putM_nn {s : List Pos} {w : Int} (hw : 0 ≤ w) : ∀ {nx : SW}, (∀ x ∈ nx, 0 ≤ x.2) → ∀ x ∈ putM s w nx, 0 ≤ x.2
  | [], _, x, h => by
    have hcm : CMAX = 1099511627776 := rfl
    simp only [putM, List.mem_singleton] at h; subst h; simp only; omega
  | y :: nx, hn, x, h => by
    have hcm : CMAX = 1099511627776 := rfl
    have hy := hn y (by simp)
    rw [putM] at h
    split at h
    · rcases List.mem_cons.1 h with rfl | h
      · simp only; omega
      · exact hn x (by simp [h])
    · rcases List.mem_cons.1 h with rfl | h
      · exact hy
      · exact putM_nn hw (fun z hz => hn z (by simp [hz])) x h
theorem putM_ne {s : List Pos} {w : Int} : ∀ {nx : SW}, nx.Pairwise (fun a b => sameB a.1 b.1 = false) → (putM s w nx).Pairwise fun a b => sameB a.1 b.1 = false
  | [], _ => by simp [putM]
  | y :: nx, h => by
    rw [List.pairwise_cons] at h
    rw [putM]
    split
    · rw [List.pairwise_cons]; exact ⟨fun z hz => h.1 z hz, h.2⟩
    · rename_i hne
      rw [List.pairwise_cons]
      refine ⟨fun z hz => ?_, putM_ne h.2⟩
      rcases putM_mem hz with e | ⟨u, hu, e⟩
      · rw [e]; simpa using hne
      · rw [← e]; exact h.1 u hu
/-- how many words follow, all in all -/
def Tot (cells : List Cel) (n : Int) (R : Nat) : SW → Int
  | [] => 0
  | x :: sw => x.2 * tot n (AccL cells x.1) R + Tot cells n R sw
theorem Tot_nn {cells : List Cel} {n : Int} {R : Nat} : ∀ {sw : SW}, (∀ x ∈ sw, 0 ≤ x.2) → 0 ≤ Tot cells n R sw
  | [], _ => Int.le_refl _
  | x :: sw, h => by
    have h1 := Tot_nn (cells := cells) (n := n) (R := R) fun y hy => h y (List.mem_cons_of_mem x hy)
    have h2 := Int.mul_nonneg (h x (by simp)) (tot_nn n (AccL cells x.1) R)
    rw [Tot]; omega
theorem ceq_mul {a b k : Int} (ha : 0 ≤ a) (hb : 0 ≤ b) (hk : 0 ≤ k) (h : min a CMAX = min b CMAX) : min (a * k) CMAX = min (b * k) CMAX := by
  have hcm : CMAX = 1099511627776 := rfl
  by_cases e : a = b
  · rw [e]
  · have h1 : CMAX ≤ a := by omega
    have h2 : CMAX ≤ b := by omega
    by_cases hk0 : k = 0
    · rw [hk0, Int.mul_zero, Int.mul_zero]
    · have g1 := Int.mul_le_mul_of_nonneg_left (show 1 ≤ k by omega) ha
      have g2 := Int.mul_le_mul_of_nonneg_left (show 1 ≤ k by omega) hb
      omega
theorem ceq_add {a b c : Int} (hc : 0 ≤ c) (h : min a CMAX = min b CMAX) : min (a + c) CMAX = min (b + c) CMAX := by omega
theorem ceq_cap {a : Int} : min (min a CMAX) CMAX = min a CMAX := by omega
theorem putM_tot {cells : List Cel} {n : Int} {R : Nat} {s : List Pos} {w : Int} (hw : 0 ≤ w) : ∀ {nx : SW}, (∀ x ∈ nx, x.1.Nodup ∧ 0 ≤ x.2) → min (Tot cells n R (putM s w nx)) CMAX = min (Tot cells n R nx + w * tot n (AccL cells s) R) CMAX
  | [], _ => by
    have hcm : CMAX = 1099511627776 := rfl
    have ht := tot_nn n (AccL cells s) R
    have h1 := ceq_mul (a := min (0 + w) CMAX) (b := w) (by omega) hw ht (by omega)
    rw [putM, Tot, Tot, Tot]
    simp only
    rw [Int.add_zero, Int.zero_add (w * tot n (AccL cells s) R)]; exact h1
  | y :: nx, h => by
    have hcm : CMAX = 1099511627776 := rfl
    have hy := h y (by simp)
    have ht := tot_nn n (AccL cells s) R
    have hT := Tot_nn (cells := cells) (n := n) (R := R) fun z hz => (h z (List.mem_cons_of_mem y hz)).2
    rw [putM]
    split
    · rename_i hs
      have e : tot n (AccL cells y.1) R = tot n (AccL cells s) R := tot_congr (same_acc hy.1 hs) R
      rw [Tot, Tot, e]
      simp only
      have h1 := ceq_mul (a := min (y.2 + w) CMAX) (b := y.2 + w) (by omega) (by omega) ht (by omega)
      have h2 := ceq_add hT h1
      rw [h2, Int.add_mul]
      congr 1; omega
    · rw [Tot, Tot]
      have h1 := putM_tot (cells := cells) (n := n) (R := R) (s := s) hw fun z hz => h z (List.mem_cons_of_mem y hz)
      have h2 := ceq_add (c := y.2 * tot n (AccL cells y.1) R) (Int.mul_nonneg hy.2 (tot_nn _ _ _)) h1
      rw [Int.add_comm, h2]
      congr 1; omega
theorem mu_nn {cells : List Cel} {p : Pos} (hm : ∀ c ∈ cells, 0 ≤ c.mx) (hp : PV_ cells p) : 0 ≤ mu cells p := by
  rcases hp with rfl | ⟨c, h0, h1, h2, h3⟩
  · unfold mu; simp
  · unfold mu
    rw [drop_next h0 h1, List.map_cons, List.sum_cons]
    have := sum_nn (l := cells.drop (p.1 + 1).toNat) fun c hc => hm c (List.mem_of_mem_drop hc)
    omega
/-- what the search needs of the cells -/
structure CE (n : Int) (cells : List Cel) (M : Int) : Prop where
  mx : ∀ c ∈ cells, 0 ≤ c.mx
  gap : ∀ c ∈ cells, c.mx ≤ 9
  cl : cells.length ≤ 40
  tot : (cells.map (·.mx)).sum = M
  small : M ≤ 14
theorem CE.lp {n : Int} {cells : List Cel} {M : Int} (e : CE n cells M) : (LPg cells 0).length ≤ 14 := by
  have := LPg_len cells 0 e.mx; have := e.tot; have := e.small; omega
theorem stepL_len {cells : List Cel} {s : Int} {l : List Pos} (h1 : (LPg cells 0).length ≤ 14) (hv : ∀ p ∈ l, PV_ cells p) (hn : l.Nodup) : (stepL cells s l).length ≤ 14 := by
  have := nodup_sub (stepL_nodup (s := s) (cells := cells) hn) fun p hp => LP_of (stepL_PV hv p hp).1 (stepL_PV hv p hp).2
  omega
theorem adv_spec {n : Int} {cells : List Cel} {M r : Int} (e : CE n cells M) {F : Nat} (hF : 1000 ≤ F) (hF2 : F ≤ 19900) {S : List Pos} (hS : SI cells M r S) (s : Int) :
    ∃ R, advM F cells S s = some R ∧ SI cells M (r + 1) R ∧ GenS cells R ∧ ∀ w, AccL cells R w = AccL cells (stepL cells s S) w := by
  have hst := stepL_PV (s := s) hS.pv
  have hln := stepL_len (s := s) e.lp hS.pv hS.nodup
  have hph := phRs_le cells (stepL cells s S)
  obtain ⟨R, h1, h2, h3⟩ := closeM_spec e.mx F 0 (stepL cells s S) (fun p hp => (hst p hp).1) (stepL_nodup hS.nodup) (by
    rw [List.drop_zero]
    have : (stepL cells s S).length * (cells.length + 1) ≤ 14 * 41 := Nat.mul_le_mul hln (by have := e.cl; omega)
    omega) (fun j hj => by omega)
  refine ⟨R, by unfold advM; rw [stepR_eq e.gap hS.pv]; exact h1, ⟨h2.pv, h2.nodup, h2.cl, fun p hp => ?_, by omega⟩, fun p hp => ?_, h2.closes.acc⟩
  · have key : ∀ (k : Nat) (p : Pos), p ∈ R → p.1.toNat ≤ k → mu cells p + (r + 1) ≤ M := by
      have hbase : ∀ p ∈ stepL cells s S, mu cells p + (r + 1) ≤ M := by
        intro p hp
        obtain ⟨q, hq, he⟩ := List.mem_filterMap.1 hp
        split at he
        · cases he
          have := hS.mu q hq
          unfold mu at this ⊢
          simp only; omega
        · cases he
      intro k
      induction k with
      | zero =>
        intro p hp hk
        rcases h2.gen p hp with g | ⟨q, hq, c, g0, g1, g2, rfl⟩
        · exact hbase p g
        · simp only at hk; omega
      | succ k ih =>
        intro p hp hk
        rcases h2.gen p hp with g | ⟨q, hq, c, g0, g1, g2, rfl⟩
        · exact hbase p g
        · have i1 := ih q hq (by simp only at hk; omega)
          have hqc : q.2 ≤ c.mx := by
            rcases h2.pv q hq with rfl | ⟨d, _, d1, _, d3⟩
            · have := (List.getElem?_eq_some_iff.1 g1).1; simp at this
            · rw [g1] at d1; cases d1; exact d3
          have := mu_next g0 g1 hqc
          omega
    exact key _ p hp (Nat.le_refl _)
  · rcases h2.gen p hp with g | g
    · exact .inl (hst p g).2
    · exact .inr g
def sums (n : Int) (cells : List Cel) (S : List Pos) (R : Nat) (gs : List Int) : Int := (gs.map fun g => tot n (AccL cells (stepL cells g S)) R).sum
theorem sums_nn (n : Int) (cells : List Cel) (S : List Pos) (R : Nat) : ∀ gs, 0 ≤ sums n cells S R gs
  | [] => by simp [sums]
  | g :: gs => by have := sums_nn n cells S R gs; have := tot_nn n (AccL cells (stepL cells g S)) R; unfold sums at *; rw [List.map_cons, List.sum_cons]; omega
theorem sgGo_spec {n : Int} {cells : List Cel} {M r : Int} (e : CE n cells M) {F : Nat} (hF : 1000 ≤ F) (hF2 : F ≤ 19900) {S : List Pos} (hS : SI cells M r S) {w : Int} (hw : 0 ≤ w) (R : Nat) : ∀ (gs : List Int) (nx : SW), NX cells M (r + 1) nx →
    ∃ nx2, sgGo F cells S w gs nx = some nx2 ∧ NX cells M (r + 1) nx2 ∧ min (Tot cells n R nx2) CMAX = min (Tot cells n R nx + w * sums n cells S R gs) CMAX
  | [], nx, hx => ⟨nx, rfl, hx, by simp [sums]⟩
  | g :: gs, nx, hx => by
    obtain ⟨s, h1, h2, h3, h4⟩ := adv_spec e hF hF2 hS g
    have hlen := hx.len e.lp
    have hsl := h2.len
    have es : sums n cells S R (g :: gs) = tot n (AccL cells s) R + sums n cells S R gs := by
      unfold sums; rw [List.map_cons, List.sum_cons, tot_congr h4]
    have hnn := sums_nn n cells S R gs
    rw [sgGo, h1]
    simp only
    rw [if_neg (by omega)]
    by_cases hs : s = []
    · rw [if_pos hs]
      obtain ⟨nx2, g1, g2, g3⟩ := sgGo_spec e hF hF2 hS hw R gs nx hx
      refine ⟨nx2, g1, g2, ?_⟩
      have : tot n (AccL cells s) R = 0 := tot_zero (fun w => by rw [hs]; rfl) R
      rw [es, this, Int.zero_add]; exact g3
    · rw [if_neg hs]
      have hp : NX cells M (r + 1) (putM s w nx) := by
        refine ⟨fun x hxm => ?_, putM_ne hx.ne⟩
        have hn := putM_nn hw (fun y hy => (hx.si y hy).2.2.1) x hxm
        rcases putM_mem hxm with q | ⟨y, hy, q⟩
        · rw [q]; exact ⟨h2, h3, hn, hs⟩
        · have := hx.si y hy; rw [q] at this; exact ⟨this.1, this.2.1, hn, this.2.2.2⟩
      obtain ⟨nx2, g1, g2, g3⟩ := sgGo_spec e hF hF2 hS hw R gs _ hp
      refine ⟨nx2, g1, g2, ?_⟩
      have h5 := putM_tot (cells := cells) (n := n) (R := R) (s := s) hw fun x hxm => ⟨(hx.si x hxm).1.nodup, (hx.si x hxm).2.2.1⟩
      have h6 := ceq_add (c := w * sums n cells S R gs) (Int.mul_nonneg hw hnn) h5
      rw [g3, h6, es, Int.mul_add]
      congr 1; omega
theorem over_acc {cells : List Cel} {S : List Pos} (hv : ∀ p ∈ S, PV_ cells p) (hc : Clsd cells S) : (S.any fun s => decide (s.1 = cells.length)) = AccL cells S [] := by
  rw [Bool.eq_iff_iff, acc_fin hv hc, List.any_eq_true]
  constructor
  · rintro ⟨p, hp, h⟩
    rw [decide_eq_true_eq] at h
    rcases hv p hp with rfl | ⟨c, h0, h1, _⟩
    · exact hp
    · have := (List.getElem?_eq_some_iff.1 h1).1; omega
  · intro h; exact ⟨_, h, by simp⟩
theorem layGo_spec {n : Int} {cells : List Cel} {M r : Int} (e : CE n cells M) {F : Nat} (hF : 1000 ≤ F) (hF2 : F ≤ 19900) (R : Nat) : ∀ (sw nx : SW) (sum : Int), (∀ x ∈ sw, SI cells M r x.1 ∧ 0 ≤ x.2) → NX cells M (r + 1) nx → 0 ≤ sum ∧ sum ≤ CMAX →
    ∃ nx2 sum2, layGo F cells n sw nx sum = some (nx2, sum2) ∧ NX cells M (r + 1) nx2 ∧ (0 ≤ sum2 ∧ sum2 ≤ CMAX) ∧ min (sum2 + Tot cells n R nx2) CMAX = min (sum + Tot cells n R nx + Tot cells n (R + 1) sw) CMAX
  | [], nx, sum, _, hx, hs => ⟨nx, sum, rfl, hx, hs, by rw [show Tot cells n (R + 1) [] = 0 from rfl, Int.add_zero]⟩
  | x :: sw, nx, sum, h, hx, hs => by
    have hcm : CMAX = 1099511627776 := rfl
    obtain ⟨hS, hw⟩ := h x (by simp)
    have hlen := hS.len
    obtain ⟨nx1, g1, g2, g3⟩ := sgGo_spec e hF hF2 hS hw R (upto n) nx hx
    rw [layGo, if_neg (by omega), g1]
    simp only
    rw [over_acc hS.pv hS.cl]
    have hts : tot n (AccL cells x.1) (R + 1) = (if AccL cells x.1 [] = true then 1 else 0) + sums n cells x.1 R (upto n) := by
      rw [tot_succ]
      congr 1
      unfold sums
      congr 1
      exact List.map_congr_left fun g _ => tot_congr (fun w => acc_step hS.pv hS.cl) R
    obtain ⟨S2, hS2, hSb⟩ : ∃ S2, S2 = (if AccL cells x.1 [] = true then min (sum + x.2) CMAX else sum) ∧ (0 ≤ S2 ∧ S2 ≤ CMAX) := ⟨_, rfl, by split <;> omega⟩
    rw [← hS2]
    obtain ⟨nx2, sum2, k1, k2, k3, k4⟩ := layGo_spec e hF hF2 R sw nx1 S2 (fun y hy => h y (by simp [hy])) g2 hSb
    refine ⟨nx2, sum2, k1, k2, k3, ?_⟩
    have t0 := Tot_nn (cells := cells) (n := n) (R := R) fun y hy => (hx.si y hy).2.2.1
    have t1 := Tot_nn (cells := cells) (n := n) (R := R) fun y hy => (g2.si y hy).2.2.1
    have t2 := Tot_nn (cells := cells) (n := n) (R := R + 1) fun y hy => (h y (List.mem_cons_of_mem x hy)).2
    have t3 := Int.mul_nonneg hw (sums_nn n cells x.1 R (upto n))
    rw [k4, Tot, hts, Int.mul_add]
    generalize x.2 * sums n cells x.1 R (upto n) = A at *
    generalize Tot cells n R nx1 = B at *
    generalize Tot cells n R nx = C at *
    generalize Tot cells n (R + 1) sw = D at *
    by_cases ha : AccL cells x.1 [] = true
    · rw [if_pos ha] at hS2 ⊢
      rw [Int.mul_one]
      omega
    · rw [if_neg ha] at hS2 ⊢
      rw [Int.mul_zero]
      omega
theorem cntR_spec {n : Int} {cells : List Cel} {M : Int} (e : CE n cells M) {F : Nat} (hF : 1000 ≤ F) (hF2 : F ≤ 19900) : ∀ (f : Nat) (r : Int) (sw : SW) (sum : Int), (∀ x ∈ sw, SI cells M r x.1 ∧ 0 ≤ x.2 ∧ x.1 ≠ []) → sw.length ≤ 16384 → 0 ≤ sum ∧ sum ≤ CMAX → r ≤ M + 1 → M + 1 < f + r →
    cntR F cells n f sw sum = some (min (sum + Tot cells n f sw) CMAX)
  | 0, r, sw, sum, _, _, _, h1, h2 => by omega
  | f + 1, r, sw, sum, h, hl, hs, h1, h2 => by
    rw [cntR, if_neg (by omega)]
    by_cases h0 : sw = []
    · rw [if_pos h0, h0, Tot]; congr 1; omega
    · rw [if_neg h0]
      obtain ⟨x, hx⟩ := List.exists_mem_of_ne_nil _ h0
      obtain ⟨g1, g2, g3⟩ := h x hx
      obtain ⟨p, hp⟩ := List.exists_mem_of_ne_nil _ g3
      have hr : r ≤ M := by have := g1.mu p hp; have := mu_nn e.mx (g1.pv p hp); omega
      obtain ⟨nx, sum2, k1, k2, k3, k4⟩ := layGo_spec e hF hF2 f sw [] sum (fun y hy => ⟨(h y hy).1, (h y hy).2.1⟩) ⟨by simp, by simp⟩ hs
      rw [k1]
      simp only
      rw [cntR_spec e hF hF2 f (r + 1) nx sum2 (fun y hy => ⟨(k2.si y hy).1, (k2.si y hy).2.2.1, (k2.si y hy).2.2.2⟩) (k2.len e.lp) k3 (by omega) (by omega), k4, show Tot cells n f [] = 0 from rfl, Int.add_zero]
theorem mu_top {cells : List Cel} : mu cells (0, 0) = (cells.map (·.mx)).sum := by unfold mu; simp
theorem count_spec {n : Int} {cells : List Cel} {M : Int} (e : CE n cells M) {F B : Nat} (hF : 1000 ≤ F) (hF2 : F ≤ 19900) (hB : 450 ≤ B) : ∃ R, closeM cells F 0 [(0, 0)] = some R ∧ R.length ≤ 1048576 ∧ cntR F cells n B [(R, 1)] 0 = some (min (tot n (acc cells 0) B) CMAX) := by
  have hcm : CMAX = 1099511627776 := rfl
  have hP0 : PV_ cells (0, 0) := by
    cases hc : cells with
    | nil => exact .inl rfl
    | cons c cs => exact .inr ⟨c, by simp, by simp, by simp, e.mx c (by rw [hc]; simp)⟩
  have hph := phRs_le cells [((0 : Int), (0 : Int))]
  have hcl := e.cl
  obtain ⟨R, h1, h2, h3⟩ := closeM_spec e.mx F 0 [(0, 0)] (fun p hp => by simp at hp; subst hp; exact hP0) (by simp) (by
    rw [List.drop_zero]; simp only [List.length_singleton, Nat.one_mul] at hph; omega) (fun j hj => by omega)
  simp only [List.length_singleton] at h3
  have hsi : SI cells M 0 R := by
    refine ⟨h2.pv, h2.nodup, h2.cl, fun p hp => ?_, by omega⟩
    have key : ∀ (k : Nat) (p : Pos), p ∈ R → p.1.toNat ≤ k → mu cells p + 0 ≤ M := by
      intro k
      induction k with
      | zero =>
        intro p hp hk
        rcases h2.gen p hp with g | ⟨q, hq, c, g0, g1, g2, rfl⟩
        · simp at g; subst g; rw [mu_top, e.tot]; omega
        · simp only at hk; omega
      | succ k ih =>
        intro p hp hk
        rcases h2.gen p hp with g | ⟨q, hq, c, g0, g1, g2, rfl⟩
        · simp at g; subst g; rw [mu_top, e.tot]; omega
        · have i1 := ih q hq (by simp only at hk; omega)
          have hqc : q.2 ≤ c.mx := by
            rcases h2.pv q hq with rfl | ⟨d, _, d1, _, d3⟩
            · have := (List.getElem?_eq_some_iff.1 g1).1; simp at this
            · rw [g1] at d1; cases d1; exact d3
          have := mu_next g0 g1 hqc
          omega
    exact key _ p hp (Nat.le_refl _)
  have hM : 0 ≤ M := by rw [← e.tot]; exact sum_nn e.mx
  have hsm := e.small
  refine ⟨R, h1, by omega, ?_⟩
  rw [cntR_spec e hF hF2 B 0 [(R, 1)] 0 (fun x hx => by simp at hx; subst hx; exact ⟨hsi, Int.zero_le_ofNat 1, fun (h : R = []) => by have := h2.sub (0, 0) (by simp); rw [h] at this; cases this⟩) (by simp) ⟨by omega, by omega⟩ (by omega) (by omega)]
  have : tot n (AccL cells R) B = tot n (acc cells 0) B := tot_congr (fun w => by
    rw [h2.closes.acc w]
    unfold AccL accP; simp) B
  rw [Tot, Tot, this]
  congr 1; simp
end Go.Abs.Wall
set_option maxRecDepth 100000
set_option linter.unusedVariables false
namespace Go.Abs.Wall
open Go Go.Abs Go.Proofs Go.Proofs.Ytbgnfchlelhbeaa.Br
/-! ### Counts -/
theorem heavySum_eq : ∀ (cs : List Cel) (s : Int), (∀ c ∈ cs, 0 ≤ c.mx ∧ c.mx ≤ 9) → heavySum cs s = s + (cs.map (·.mx)).sum
  | [], s, _ => by simp [heavySum]
  | c :: cs, s, h => by
    have h1 := h c (by simp)
    rw [heavySum, heavySum_eq cs _ fun d hd => h d (by simp [hd]), List.map_cons, List.sum_cons]
    unfold clamp; omega
theorem light {l : Lst} {cells : List Cel} {line : List Int} (hh : heavy l cells line = false) (hr : right l.signs.length cells = true) : CE l.signs.length cells (cells.map (·.mx)).sum := by
  obtain ⟨h1, h2, h3⟩ := right_iff.1 hr
  have hb : ∀ c ∈ cells, 0 ≤ c.mx ∧ c.mx ≤ 9 := fun c hc => by have := (h2 c hc).mn; have := (h2 c hc).mx; have := (h2 c hc).gap; omega
  have hs := heavySum_eq cells 0 hb
  have h4 : ¬ (14 < (cells.map (·.mx)).sum) := fun h => by
    unfold heavy at hh
    rw [if_pos h1, hs, Int.zero_add] at hh
    simp [h, h3] at hh
  exact ⟨fun c hc => (hb c hc).1, fun c hc => (hb c hc).2, h1, rfl, by omega⟩
theorem refCountW (B F : Nat) (hB : 450 ≤ B) (hF : 1000 ≤ F) (hF2 : F ≤ 19900) (l : Lst) (cells : List Cel) (line : List Int) (hl : LstFit l) (hc : CelsFit cells) (hh : heavy l cells line = false) :
    QCall Try.prog 22 [.agg (encLst l), .sl 3 none (cells.map encCel)] [] (.tup [.int .i64 (countR B l cells), .int .i64 (checkErr l cells)]) := by
  by_cases h0 : checkErr l cells = 0
  · have := refCount l cells (min (tot l.signs.length (acc cells 0) B) CMAX) F B (by omega) hl hc (fun h => count_spec (light hh (check_right h)) hF hF2 hB)
    unfold countR
    rw [if_pos h0] at this ⊢; exact this
  · have := refCount l cells 0 F B (by omega) hl hc (fun h => absurd h h0)
    unfold countR
    rw [if_neg h0] at this ⊢; exact this
def c4 : Cfg := ⟨[0, 1, 2, 4, 5, 6, 7, 8, 11], [], [], [], [], []⟩
theorem lawCounts' (B F : Nat) (hB : 450 ≤ B) (hF : 1000 ≤ F) (hF2 : F ≤ 19900) (l : Lst) (cells : List Cel) (hl : LstFit l) (hc : CelsFit cells) : QCall Try.prog 4 [.agg (encLst l), .sl 3 none (cells.map encCel)] [] (.bool true) := by
  have n1 := VLe.nil (k := 1) (by decide)
  have hhv : QCall Try.prog 18 [.agg (encLst l), .sl 3 none (cells.map encCel), .nilS] [] (.bool (heavy l cells [])) :=
    QCall.args (heavyW l cells [] hl hc (by unfold LMAX; simp)) (.cons (VLe.refl _) (.cons (VLe.refl _) (.cons n1 .nil)))
  refine QCall.of' ?_
  refine fcalls (F := Try.f4) c4 rfl rfl rfl mixed rfl fun X => ?_
  conv => whnf
  repeat (refine QCall.k0 (hhv) ?_; conv => whnf)
  refine ⟨fun hd => ?_, fun hd => ?_⟩
  · conv => whnf
    repeat (refine QCall.k0 (works) ?_; conv => whnf)
  conv => whnf
  repeat ((first | refine QCall.k0 (countW B hB l cells hl hc) ?_ | refine QCall.k0 (refCountW B F hB hF hF2 l cells [] hl hc hd) ?_ | refine gcall (works) ?_); conv => whnf)
  exact congrArg AV.bool (by simp)
theorem lawCounts (l : Lst) (cells : List Cel) (hl : LstFit l) (hc : CelsFit cells) : QCall Try.prog 4 [.agg (encLst l), .sl 3 none (cells.map encCel)] [] (.bool true) := lawCounts' 450 2000 (by decide) (by decide) (by decide) l cells hl hc
end Go.Abs.Wall
