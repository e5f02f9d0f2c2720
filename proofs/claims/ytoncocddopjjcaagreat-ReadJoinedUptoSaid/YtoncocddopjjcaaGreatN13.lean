/- What is proved: small laws for the walks of this seat, and contracts of its functions. No condition but those each theorem names. -/
import Derived.Test.YtoncocddopjjcaaGreatN12
import Derived.Test.YtoncocddopjjcaaGreatN8
import Derived.Test.YtoncocddopjjcaaGreatN10
set_option maxRecDepth 100000
set_option linter.unusedVariables false
set_option linter.unusedSimpArgs false
namespace Go.Abs.Wall
open Go Go.Abs Go.Proofs
/-! ### the table of least costs -/
def proveL (H : Hou) (line : List Int) : List Int := if growErr H line = 0 then restT (graphM H line) else []
def c35 : Cfg := ⟨[0, 1, 2, 4, 5, 6, 7, 15], [], [], [], [], []⟩
theorem ProveW (H : Hou) (line : List Int) (hf : HouFit H) (hl : line.length ≤ 1048576) :
    QCall Tryz.prog 35 [.agg (encHou H), .sl 1 none (ints line)] [] (.tup [.sl 1 none (ints (proveL H line)), .int .i64 (growErr H line)]) := by
  have hgw := growW H line hf hl
  refine QCall.of ?_
  refine fcalls (F := Tryz.f35) c35 rfl rfl rfl mixed rfl fun X => ?_
  conv => whnf
  repeat (refine QCall.k0 (hgw) ?_; conv => whnf)
  refine ⟨fun h0 => ?_, fun h0 => ?_⟩ <;> simp at h0
  · conv => whnf
    skip
    rw [proveL, if_neg h0]
    exact VLe.tup (.cons (VLe.nil (by decide)) (.cons (VLe.refl _) .nil))
  · have hgv : growV H line = .iptr (encForest (graphM H line) (restT (graphM H line))) := by rw [growV, if_pos h0]
    rw [hgv]
    conv => whnf
    skip
    rw [proveL, if_pos h0, h0]
    exact VLe.refl _
end Go.Abs.Wall
set_option maxRecDepth 100000
set_option linter.unusedVariables false
set_option linter.unusedSimpArgs false
namespace Go.Abs.Wall
open Go Go.Abs Go.Proofs
/-! ### whether a table proves a bound -/
def minL : List Int → Int
  | [] => 0
  | x :: t => t.foldl min x
def pvBad (T : List Int) (i : Nat) (x : Edg) : Bool := !decide (T.getD x.to.toNat 0 = -1) && (decide (T.getD i 0 = -1) || decide (T.getD x.to.toNat 0 < T.getD i 0 - x.cost))
def pvGo (T : List Int) : List (List Edg) → Nat → Bool
  | [], _ => false
  | es :: t, i => es.any (pvBad T i) || pvGo T t (i + 1)
def pvForm (n : Nat) (T : List Int) : Bool := !decide (T.length = n + 1) || !decide (T.getD n 0 = 0) || decide (minL T < -1)
def provesG (g : List (List Edg)) (T : List Int) (c : Int) : Bool := if pvForm g.length T = true then false else if pvGo T g 0 = true then false else decide (T.getD 0 0 = -1) || decide (c ≤ T.getD 0 0)
def provesM (H : Hou) (line : List Int) (T : List Int) (c : Int) : Bool := if growErr H line = 0 then provesG (graphM H line) T c else false
theorem foldl_min_le : ∀ (t : List Int) (x : Int), t.foldl min x ≤ x ∧ ∀ a ∈ t, t.foldl min x ≤ a
  | [], x => ⟨Int.le_refl _, fun a h => by cases h⟩
  | b :: t, x => by
    obtain ⟨h1, h2⟩ := foldl_min_le t (min x b)
    rw [List.foldl_cons]
    refine ⟨by omega, fun a ha => ?_⟩
    rcases List.mem_cons.1 ha with rfl | ha
    · omega
    · exact h2 a ha
theorem minL_le {T : List Int} : ∀ a ∈ T, minL T ≤ a := by
  intro a ha
  cases T with
  | nil => cases ha
  | cons x t =>
    have := foldl_min_le t x
    rcases List.mem_cons.1 ha with rfl | ha
    · exact this.1
    · exact this.2 a ha
theorem foldl_min_mem : ∀ (t : List Int) (x : Int), t.foldl min x = x ∨ t.foldl min x ∈ t
  | [], x => .inl rfl
  | b :: t, x => by
    rw [List.foldl_cons]
    rcases foldl_min_mem t (min x b) with h | h
    · rw [h]
      rcases Int.le_total x b with h2 | h2
      · left; omega
      · right; rw [show min x b = b by omega]; simp
    · right; simp [h]
theorem minL_mem {T : List Int} (h : T ≠ []) : minL T ∈ T := by
  cases T with
  | nil => exact absurd rfl h
  | cons x t =>
    show t.foldl min x ∈ x :: t
    rcases foldl_min_mem t x with h | h
    · rw [h]; simp
    · simp [h]
def c78 : Cfg := ⟨[0, 2, 3, 4, 7, 15], [], [], [], [], []⟩
def c39 : Cfg := ⟨[0, 1, 2, 3, 4, 8, 9, 10, 11, 12, 13, 14, 16, 17, 18, 26, 46, 50, 51, 52, 53, 57, 58, 59, 60, 85], [], [16], [], [(13, [0, 1, 2, 3, 4, 5, 6, 7, 8, 9, 10], [])], []⟩
theorem minW (T : List Int) (hne : T ≠ []) (hl : T.length ≤ LMAX) : QCall Tryz.prog 78 [.sl 1 none (ints T)] [] (.int .i64 (minL T)) := by
  unfold LMAX at hl
  have hpos : 0 < T.length := List.length_pos_iff.2 hne
  obtain ⟨x0, hx0⟩ := get_lt hpos
  refine fcalls (F := Tryz.f78) c78 rfl rfl rfl mixed rfl fun X => ?_
  conv => whnf
  skip
  refine cF (by simp; omega) ?_
  conv => whnf
  repeat (refine ix (by assumption) ?_; conv => whnf)
  refine sloop rfl mixed [0, 3, 4] [] (fun m r h => ∃ (i : Nat) (a : Int), r = [(0, [], .sl 1 none (ints T)), (3, [], .int .i64 a), (4, [], .int .i64 i)] ∧ h = [] ∧ m = T.length - i ∧ 1 ≤ i ∧ i ≤ T.length ∧ minL T = (T.drop i).foldl min a) ?_ ?_
  · conv => whnf
    refine ⟨_, 1, x0, rfl, rfl, rfl, by omega, by omega, ?_⟩
    cases hT : T with
    | nil => exact absurd hT hne
    | cons x t => rw [hT] at hx0; cases hx0; rfl
  · rintro m r h ⟨i, a, rfl, rfl, rfl, h1, hi, hg⟩
    conv => whnf
    skip
    refine ⟨fun hi2 => ?_, fun hi2 => ?_⟩ <;> simp at hi2
    · obtain ⟨x, hx⟩ := get_lt hi2
      rw [drop_cons hx, List.foldl_cons] at hg
      conv => whnf
      repeat ((first | refine ⟨gP_of ⟨by omega, by omega⟩, ?_⟩ | refine ix (by assumption) ?_); conv => whnf)
      exact ⟨_, by omega, i + 1, min a x, rfl, rfl, rfl, by omega, by omega, hg⟩
    · rw [drop_nil hi2, List.foldl_nil] at hg
      conv => whnf
      skip
      exact ⟨by rw [hg], rfl⟩
theorem getD_get {T : List Int} {i : Nat} (h : i < T.length) : T[i]? = some (T.getD i 0) := by
  rw [List.getD_eq_getElem?_getD, List.getElem?_eq_getElem h]; rfl
theorem ProvesW (H : Hou) (line T : List Int) (c : Int) (hf : HouFit H) (hl : line.length ≤ 1048576) (hT : T.length ≤ 1048576) (hTi : ∀ a ∈ T, IntKind.i64.has a) :
    QCall Tryz.prog 39 [.agg (encHou H), .sl 1 none (ints line), .sl 1 none (ints T), .int .i64 c] [] (.tup [.bool (provesM H line T c), .int .i64 (growErr H line)]) := by
  have hgw := growW H line hf hl
  refine fcalls (F := Tryz.f39) c39 rfl rfl rfl mixed rfl fun X => ?_
  conv => whnf
  repeat (refine QCall.k0 (hgw) ?_; conv => whnf)
  refine ⟨fun h0 => ?_, fun h0 => ?_⟩ <;> simp at h0
  · conv => whnf
    skip
    exact ⟨by rw [provesM, if_neg h0], rfl⟩
  obtain ⟨hL, hsum, hg⟩ := growOK h0
  obtain ⟨g, hge⟩ : ∃ g, g = graphM H line := ⟨_, rfl⟩
  have hgl : g.length = line.length := by rw [hge]; exact graphM_len H line
  have hgv : growV H line = .iptr (encForest g (restT g)) := by rw [growV, if_pos h0, hge]
  have hpm : provesM H line T c = provesG g T c := by rw [provesM, if_pos h0, hge]
  rw [← hge] at hg hsum
  rw [hgv, h0, hpm]
  have hfew := hg.few
  by_cases hlen : T.length = line.length + 1
  · have hTn := getD_get (T := T) (i := line.length) (by omega)
    have hne : T ≠ [] := by intro e; rw [e] at hlen; simp at hlen
    have hmn := minW T hne (by unfold LMAX; omega)
    have hpf : pvForm g.length T = (!decide (((ints T).length : Int) = ((ints line).length : Int) + 1) || !decide (T.getD line.length 0 = 0) || decide (minL T < -1)) := by
      unfold pvForm
      rw [hgl, ints_length, ints_length, decide_eq_true hlen, decide_eq_true (show ((T.length : Int) = (line.length : Int) + 1) by omega)]
    conv => whnf
    repeat ((first | (refine ⟨gP_of ⟨by rw [ints_length]; omega, by rw [ints_length]; omega⟩, ?_⟩) | (refine ixn line.length (by rw [ints_length]) hTn ?_) | refine gcall (hmn) ?_); conv => whnf)
    refine ⟨fun hq => ?_, fun hq => ?_⟩
    · have hq := hpf.trans hq
      conv => whnf
      skip
      exact ⟨by rw [provesG, if_pos hq], rfl⟩
    have hq := hpf.trans hq
    have hpg : provesG g T c = if pvGo T g 0 = true then false else decide (T.getD 0 0 = -1) || decide (c ≤ T.getD 0 0) := by rw [provesG, if_neg (by rw [hq]; decide)]
    have hmin : ∀ a ∈ T, -1 ≤ a := by
      intro a ha
      have h1 := minL_le a ha
      unfold pvForm at hq
      simp only [Bool.or_eq_false_iff, decide_eq_false_iff_not] at hq
      omega
    have hgb : ∀ i : Nat, i < T.length → -1 ≤ T.getD i 0 ∧ T.getD i 0 ≤ 9223372036854775807 := fun i hi => by
      have hm := List.mem_of_getElem? (getD_get hi)
      have h1 := hTi _ hm
      have h2 : -9223372036854775808 ≤ T.getD i 0 ∧ T.getD i 0 ≤ 9223372036854775807 := h1
      exact ⟨hmin _ hm, h2.2⟩
    conv => whnf
    skip
    refine sloop rfl mixed [2, 3, 50, 51, 52] [] (fun m r h => ∃ (i : Nat), r = [(2, [], .sl 1 none (ints T)), (3, [], .int .i64 c), (50, [], .sl 1 none (g.map encEdgs)), (51, [], .int .i64 (g.map encEdgs).length), (52, [], .int .i64 i)] ∧ h = [] ∧ m = g.length - i ∧ i ≤ g.length ∧ pvGo T g 0 = pvGo T (g.drop i) i) ?_ ?_
    · conv => whnf
      exact ⟨_, 0, rfl, rfl, rfl, by omega, rfl⟩
    · rintro m r h ⟨i, rfl, rfl, rfl, hi, hgo⟩
      conv => whnf
      refine ⟨fun hi2 => ?_, fun hi2 => ?_⟩ <;> simp at hi2
      · obtain ⟨es, hes⟩ := get_lt hi2
        have hmany := hg.many i es hes
        rw [drop_cons hes, pvGo] at hgo
        conv => whnf
        repeat (refine ix (by assumption) ?_; conv => whnf)
        refine sloop rfl mixed [2, 3, 13, 50, 51, 52, 57, 58, 59] [] (fun m r h => ∃ (k : Nat), r = [(2, [], .sl 1 none (ints T)), (3, [], .int .i64 c), (13, [], .int .i64 i), (50, [], .sl 1 none (g.map encEdgs)), (51, [], .int .i64 (g.map encEdgs).length), (52, [], .int .i64 i), (57, [], .sl 7 none (es.map encEdg)), (58, [], .int .i64 (es.map encEdg).length), (59, [], .int .i64 k)] ∧ h = [] ∧ m = es.length - k ∧ k ≤ es.length ∧ pvGo T g 0 = ((es.drop k).any (pvBad T i) || pvGo T (g.drop (i + 1)) (i + 1))) ?_ ?_
        · conv => whnf
          exact ⟨_, 0, rfl, rfl, rfl, by omega, hgo⟩
        · clear hgo
          rintro m r h ⟨k, rfl, rfl, rfl, hk, hgo⟩
          conv => whnf
          refine ⟨fun hk2 => ?_, fun hk2 => ?_⟩ <;> simp at hk2
          · obtain ⟨x, hx⟩ := get_lt hk2
            have hxo := hg.edge i es hes x (List.mem_of_getElem? hx)
            have h1 := hxo.lo
            have h2 := hxo.hi
            have h3 := hxo.cost
            have hti := getD_get (T := T) (i := i) (by omega)
            have htx := getD_get (T := T) (i := x.to.toNat) (by omega)
            have hbi := hgb i (by omega)
            rw [drop_cons hx, List.any_cons, Bool.or_assoc] at hgo
            conv => whnf
            repeat ((first | refine ⟨gP_of ⟨by omega, by omega⟩, ?_⟩ | refine ix (by assumption) ?_ | (intro (b16 : Nat)) | (refine ixn x.to.toNat (by omega) htx ?_) | refine ⟨_, _, Rem.here _, ⟨Nat.le_of_ble_eq_true rfl, rfl⟩, ?_⟩
                           | refine And.intro (by show drawOK (opsAt Tryz.f39 _) _ = true; decide +kernel) ?_); conv => whnf)
            refine ⟨fun hq => ?_, fun hq => ?_⟩
            · have hq : pvBad T i x = true := hq
              rw [hq, Bool.true_or] at hgo
              conv => whnf
              skip
              exact ⟨by rw [hpg, if_pos hgo], rfl⟩
            · have hq : pvBad T i x = false := hq
              rw [hq, Bool.false_or] at hgo
              conv => whnf
              repeat (refine ⟨gP_of ⟨by omega, by omega⟩, ?_⟩; conv => whnf)
              exact ⟨_, by omega, k + 1, rfl, rfl, rfl, by omega, hgo⟩
          · rw [drop_nil hk2, List.any_nil, Bool.false_or] at hgo
            conv => whnf
            repeat (refine ⟨gP_of ⟨by omega, by omega⟩, ?_⟩; conv => whnf)
            exact ⟨_, by omega, i + 1, rfl, rfl, rfl, by omega, hgo⟩
      · rw [drop_nil hi2, pvGo] at hgo
        have ht0 := getD_get (T := T) (i := 0) (by omega)
        conv => whnf
        repeat (refine ix (by assumption) ?_; conv => whnf)
        refine ⟨?_, rfl⟩
        rw [hpg, if_neg (by rw [hgo]; decide)]
  · have hpf : pvForm g.length T = true := by
      unfold pvForm
      rw [hgl, decide_eq_false hlen]
      rfl
    have hlen' : (decide (((ints T).length : Int) = ((ints line).length : Int) + 1)) = false := by rw [ints_length, ints_length, decide_eq_false_iff_not]; omega
    conv => whnf
    repeat ((first | (refine ⟨gP_of ⟨by rw [ints_length]; omega, by rw [ints_length]; omega⟩, ?_⟩) | (refine ixg (enc := fun y : Int => [AV.int .i64 y]) (0 : Int) ?_ ?_; (focus ((conv => whnf); intro g0; rw [show (!decide (((ints T).length : Int) = ((ints line).length : Int) + 1)) = true by rw [hlen']; rfl] at g0; cases g0)))
                   | (refine ⟨.int .i64 0, ?_, ?_⟩; (focus ((conv => whnf); intro g0; rw [show (!decide (((ints T).length : Int) = ((ints line).length : Int) + 1)) = true by rw [hlen']; rfl, Bool.true_or] at g0; cases g0)))); conv => whnf)
    refine cT (by rw [hlen']; rfl) ?_
    conv => whnf
    skip
    exact ⟨by rw [provesG, if_pos hpf], rfl⟩
end Go.Abs.Wall
set_option maxRecDepth 100000
set_option linter.unusedVariables false
set_option linter.unusedSimpArgs false
namespace Go.Abs.Wall
open Go Go.Abs Go.Proofs
end Go.Abs.Wall
set_option maxRecDepth 100000
set_option linter.unusedVariables false
set_option linter.unusedSimpArgs false
namespace Go.Abs.Wall
open Go Go.Abs Go.Proofs
/-! ### the law of the bounds -/
def chOne (T : List Int) (p : Int × Int) : List Int := if (decide (0 ≤ p.1) && decide (p.1 < (T.length : Int))) = true then T.set p.1.toNat (IntKind.i64.wrap (T.getD p.1.toNat 0 + p.2)) else T
def chM (T : List Int) (ps : List (Int × Int)) : List Int := (ps.take 20).foldl chOne T
theorem chOne_len (T : List Int) (p : Int × Int) : (chOne T p).length = T.length := by
  unfold chOne
  split
  · exact List.length_set
  · rfl
theorem chFold_len : ∀ (ps : List (Int × Int)) (T : List Int), (ps.foldl chOne T).length = T.length
  | [], _ => rfl
  | p :: ps, T => by rw [List.foldl_cons, chFold_len ps, chOne_len]
theorem wrap_has (a : Int) : IntKind.i64.has (IntKind.i64.wrap a) := by
  constructor <;> simp [IntKind.min, IntKind.max, IntKind.wrap, IntKind.signed, IntKind.bits] <;> (try split) <;> omega
theorem chOne_has {T : List Int} {p : Int × Int} (h : ∀ a ∈ T, IntKind.i64.has a) : ∀ a ∈ chOne T p, IntKind.i64.has a := by
  unfold chOne
  split
  · intro a ha
    rcases List.mem_or_eq_of_mem_set ha with h1 | h1
    · exact h a h1
    · rw [h1]; exact wrap_has _
  · exact h
theorem chFold_has : ∀ (ps : List (Int × Int)) {T : List Int}, (∀ a ∈ T, IntKind.i64.has a) → ∀ a ∈ ps.foldl chOne T, IntKind.i64.has a
  | [], _, h => h
  | p :: ps, T, h => by rw [List.foldl_cons]; exact chFold_has ps (chOne_has h)
theorem chFold_nil : ∀ (ps : List (Int × Int)), ps.foldl chOne [] = []
  | [] => rfl
  | p :: ps => by
    have : chOne [] p = [] := by unfold chOne; split <;> rfl
    rw [List.foldl_cons, this, chFold_nil ps]
def rowI (n : Nat) (U : List Int) : List AV := rowsF n fun j => .int .i64 (U.getD j 0)
theorem rowI_flat (T : List Int) : (ints T).flatten = rowI T.length T := by
  unfold rowI rowsF ints
  refine List.ext_getElem? fun j => ?_
  rw [show (T.map fun x => [AV.int .i64 x]).flatten = T.map (AV.int .i64) by
    induction T with
    | nil => rfl
    | cons x t ih => simp [ih]]
  rw [List.getElem?_map, List.getElem?_map]
  by_cases hj : j < T.length
  · rw [List.getElem?_range hj, List.getElem?_eq_getElem hj]
    simp [hj]
  · rw [List.getElem?_eq_none (by omega), List.getElem?_eq_none (by simp; omega)]; rfl
theorem rowI_set {n i : Nat} {U : List Int} {v : Int} (hn : U.length = n) : rowsF n (fun j => if j = i then AV.int .i64 v else .int .i64 (U.getD j 0)) = rowI n (U.set i v) := by
  refine rowsF_congr fun j hj => ?_
  by_cases h : j = i
  · subst h
    rw [if_pos rfl, List.getD_eq_getElem?_getD, List.getElem?_set_self (by omega)]; rfl
  · rw [if_neg h, List.getD_eq_getElem?_getD, List.getD_eq_getElem?_getD, List.getElem?_set_ne (by omega)]
theorem rowI_ints {n : Nat} {U : List Int} (hn : U.length = n) : ints U = (List.range n).map fun j => [AV.int .i64 (U.getD j 0)] := by
  unfold ints
  refine List.ext_getElem? fun j => ?_
  rw [List.getElem?_map, List.getElem?_map]
  by_cases hj : j < n
  · rw [List.getElem?_range hj, List.getElem?_eq_getElem (by omega)]
    simp [show j < U.length by omega]
  · rw [List.getElem?_eq_none (by omega), List.getElem?_eq_none (by simp; omega)]; rfl
def c38 : Cfg := ⟨[0, 1, 4, 5, 6, 7, 17, 32], [9, 44], [], [], [(7, [0, 1, 2, 3, 4, 5, 6, 7, 8, 9, 10, 11, 12, 13], [])], []⟩
def c6 : Cfg := ⟨[0, 1, 2, 3, 5, 6, 7, 8, 9, 10, 11, 12, 13, 14, 15, 16, 17, 26, 48, 54, 60, 87], [], [], [], [], []⟩
def c38e : Cfg := ⟨c38.keep, [], c38.frz, c38.spl, c38.ords, []⟩
theorem ixr {P : Program} {e : TypeId} {g : G} {m : Nat} {cs : List AV} {n : Int} {K : AV → Prop} (j : Nat) {l : List AV} (hn : n = (j : Int)) (hj : j < m) (hd : dropN (j * P.cellsOf e) cs = some l) (hk : K (.iptr l)) :
    ∃ (j : Nat) (l : List AV), gP g (n = (j : Int) ∧ j < m) ∧ dropN (j * P.cellsOf e) cs = some l ∧ K (.iptr l) := ⟨j, l, gP_of ⟨hn, hj⟩, hd, hk⟩
theorem changedW (T : List Int) (ps : List (Int × Int)) (hT : T.length ≤ 1048576) (hps : ps.length ≤ 1048576) :
    QCall Tryz.prog 38 [.sl 1 none (ints T), .sl 2 none (ps.map encPair)] [] (.sl 1 none (ints (chM T ps))) := by
  by_cases hTe : T = []
  · subst hTe
    refine QCall.of ?_
    refine fcalls (F := Tryz.f38) c38e rfl rfl rfl mixed rfl fun X => ?_
    conv => whnf
    skip
    refine ⟨by decide, fun q => ?_⟩
    skip
    refine sloop rfl mixed [1, 5, 6] [] (fun m r h => ∃ (k : Nat), r = [(1, [], .sl 2 none (ps.map encPair)), (5, [], .sl 1 (some q) (ints [])), (6, [], .int .i64 k)] ∧ h = [(q, .tok)] ∧ m = ps.length - k ∧ k ≤ ps.length) ?_ ?_
    · conv => whnf
      exact ⟨_, 0, rfl, rfl, rfl, by omega⟩
    · rintro m r h ⟨k, rfl, rfl, rfl, hk⟩
      conv => whnf
      skip
      refine ⟨fun hc => ?_, fun hc => ?_⟩ <;> simp at hc
      · obtain ⟨p, hp⟩ := get_lt (l := ps) (i := k) (by omega)
        conv => whnf
        repeat ((first | refine ix (by assumption) ?_ | (refine ixr 0 rfl (by decide) rfl ?_)); conv => whnf)
        refine ⟨fun hq => ?_, fun hq => ?_⟩
        · exfalso
          rw [show (ints ([] : List Int)).length = 0 from rfl] at hq
          simp at hq
          omega
        · conv => whnf
          repeat (refine ⟨gP_of ⟨by omega, by omega⟩, ?_⟩; conv => whnf)
          exact ⟨_, by omega, k + 1, rfl, rfl, rfl, by omega⟩
      · conv => whnf
        skip
        rw [chM, chFold_nil]
        exact VLe.sl
  · refine QCall.of (ACalls.frzOr (R := fun v h' => ∃ b Z, v = .osl b 0 T.length 1 ∧ h' = (b, .vec (rowI T.length (chM T ps))) :: Z) ?_ ?_)
    · have hne := ints_ne' hTe
      refine fcalls (F := Tryz.f38) c38 rfl rfl rfl mixed rfl fun X => ?_
      conv => whnf
      skip
      refine ⟨⟨by rw [ints_length]; exact List.length_pos_iff.2 hTe, by rw [ints_length]; unfold AMAX; omega⟩, fun b => ?_⟩
      rw [rowI_flat, ints_length]
      skip
      refine sloop rfl mixed [1, 5, 6] [] (fun m r h => ∃ (k : Nat) (U : List Int), r = [(1, [], .sl 2 none (ps.map encPair)), (5, [], .osl b 0 T.length 1), (6, [], .int .i64 k)] ∧ h = [(b, .vec (rowI T.length U))] ∧ m = ps.length - k ∧ k ≤ ps.length ∧ k ≤ 20 ∧ U = (ps.take k).foldl chOne T) ?_ ?_
      · conv => whnf
        exact ⟨_, 0, _, rfl, rfl, rfl, by omega, by omega, rfl⟩
      · rintro m r h ⟨k, U, rfl, rfl, rfl, hk, hk20, hU⟩
        have hUl : U.length = T.length := by rw [hU, chFold_len]
        conv => whnf
        skip
        refine ⟨fun hc => ?_, fun hc => ?_⟩ <;> simp at hc
        · obtain ⟨p, hp⟩ := get_lt (l := ps) (i := k) (by omega)
          have hnx : (ps.take (k + 1)).foldl chOne T = chOne U p := by rw [take_snoc hp, List.foldl_append, ← hU]; rfl
          conv => whnf
          repeat ((first | refine ix (by assumption) ?_ | (refine ixr 0 rfl (by decide) rfl ?_)); conv => whnf)
          refine ⟨fun hq => ?_, fun hq => ?_⟩ <;> simp at hq
          · have hpl : p.1.toNat < T.length := by omega
            have hnx2 : chOne U p = U.set p.1.toNat (IntKind.i64.wrap (U.getD p.1.toNat 0 + p.2)) := by
              unfold chOne
              rw [hUl, decide_eq_true hq.1, decide_eq_true (show p.1 < (T.length : Int) by omega)]; rfl
            have hq1 : (fun j => AV.int .i64 (U.getD j 0)) (0 + p.1.toNat * 1) = .int .i64 (U.getD p.1.toNat 0) := by
              show AV.int .i64 (U.getD (0 + p.1.toNat * 1) 0) = _
              rw [Nat.zero_add, Nat.mul_one]
            unfold rowI
            conv => whnf
            repeat ((first | refine ⟨gP_of ⟨by omega, by omega⟩, ?_⟩ | refine ix (by assumption) ?_ | (refine ixr 1 rfl (by decide) rfl ?_) | (refine ⟨p.1.toNat, gP_of ⟨by omega, hpl⟩, ?_⟩)
                           | (refine ldoF (.int .i64 (U.getD p.1.toNat 0)) (.head _) rfl (by omega) hq1 ?_) | (refine stoF ?_ (.here _) ?_; (focus omega)) | refine And.intro (by show drawOK (opsAt Tryz.f38 _) _ = true; decide +kernel) ?_); conv => whnf)
            refine ⟨_, by omega, k + 1, _, rfl, ?_, rfl, by omega, by omega, rfl⟩
            rw [hnx, hnx2]
            refine congrArg (fun z => [(b, Ob.vec z)]) ((rowsF_congr fun j hj => ?_).trans (rowI_set hUl))
            by_cases h : j = p.1.toNat
            · rw [if_pos (by omega), if_pos h]
            · rw [if_neg (by omega), if_neg h]
          · have hnx2 : chOne U p = U := by
              unfold chOne
              rw [hUl, if_neg]
              simp
              exact hq
            conv => whnf
            repeat (refine ⟨gP_of ⟨by omega, by omega⟩, ?_⟩; conv => whnf)
            exact ⟨_, by omega, k + 1, _, rfl, rfl, rfl, by omega, by omega, by rw [hnx, hnx2]⟩
        · have hfin : U = chM T ps := by
            rw [hU, chM]
            by_cases h20 : k = 20
            · rw [h20]
            · rw [List.take_of_length_le (by omega), List.take_of_length_le (by omega)]
          conv => whnf
          skip
          exact ⟨b, [], rfl, by rw [hfin]⟩
    · rintro v h1 ⟨b, Z, rfl, rfl⟩
      refine .inr ⟨b, _, Z, Z, .sl 1 none (ints (chM T ps)), .here _, FzH.refl _, fzF (rowI_ints (by unfold chM; rw [chFold_len])), VLe.refl _⟩
theorem chM_len (T : List Int) (ps : List (Int × Int)) : (chM T ps).length = T.length := by unfold chM; rw [chFold_len]
theorem chM_has {T : List Int} (ps : List (Int × Int)) (h : ∀ a ∈ T, IntKind.i64.has a) : ∀ a ∈ chM T ps, IntKind.i64.has a := by unfold chM; exact chFold_has _ h
theorem proveL_ok (H : Hou) (line : List Int) : (proveL H line).length ≤ 61 ∧ ∀ a ∈ proveL H line, IntKind.i64.has a := by
  unfold proveL
  split
  · rename_i h0
    obtain ⟨hL, hsum, hg⟩ := growOK h0
    have hfew := hg.few
    refine ⟨by rw [restT_len]; omega, fun a ha => ?_⟩
    rw [restT_map] at ha
    obtain ⟨i, hi, rfl⟩ := List.mem_map.1 ha
    have hi := List.mem_range.1 hi
    have h1 := hg.rest i (by omega)
    show -9223372036854775808 ≤ _ ∧ _ ≤ 9223372036854775807
    omega
  · exact ⟨by simp, by simp⟩
end Go.Abs.Wall

