/- What is proved: small laws for the walks of this seat, and contracts of its functions. No condition but those each theorem names. -/
import Derived.Test.YthkokengobdgcaaGreatN7
import Derived.Test.YthkokengobdgcaaGreatN5
import Derived.Test.YthkokengobdgcaaGreatN4
import Derived.Test.YthkokengobdgcaaGreatN6
set_option maxRecDepth 100000
set_option maxHeartbeats 2000000
set_option linter.unusedVariables false
set_option linter.unusedSimpArgs false
namespace Go.Abs.Wall
open Go Go.Abs Go.Proofs
/-! ### rows of several cells -/
section
variable {α : Type} {k : Nat} {enc : α → List AV}
theorem flat_len (hk : ∀ a, (enc a).length = k) (L : List α) : ((L.map enc).flatten).length = L.length * k := enc_len hk
theorem flat_drop (hk : ∀ a, (enc a).length = k) : ∀ (L : List α) (i : Nat), ((L.map enc).flatten).drop (i * k) = ((L.drop i).map enc).flatten
  | L, 0 => by simp
  | [], i + 1 => by simp
  | a :: L, i + 1 => by
    rw [List.map_cons, List.flatten_cons, List.drop_succ_cons, show (i + 1) * k = (enc a).length + i * k by rw [hk, Nat.succ_mul, Nat.add_comm], List.drop_append, List.drop_eq_nil_of_le (Nat.le_add_right _ _), List.nil_append, Nat.add_sub_cancel_left]
    exact flat_drop hk L i
theorem flat_take (hk : ∀ a, (enc a).length = k) : ∀ (L : List α) (i : Nat), ((L.map enc).flatten).take (i * k) = ((L.take i).map enc).flatten
  | L, 0 => by simp
  | [], i + 1 => by simp
  | a :: L, i + 1 => by
    rw [List.map_cons, List.flatten_cons, List.take_succ_cons, List.map_cons, List.flatten_cons, show (i + 1) * k = (enc a).length + i * k by rw [hk, Nat.succ_mul, Nat.add_comm], List.take_append, List.take_of_length_le (Nat.le_add_right _ _), Nat.add_sub_cancel_left]
    rw [flat_take hk L i]
theorem ldE {P : Program} {t : TypeId} {b o i : Nat} {h : Heap} {L : List α} {x : α} {K : AV → Prop} (hk : ∀ a, (enc a).length = k) (hm : (b, Ob.vec (L.map enc).flatten) ∈ h) (ho : o = i * k) (hx : L[i]? = some x)
    (hl : loadI P t (enc x ++ ((L.drop (i + 1)).map enc).flatten) K) : ∃ cs l, (b, Ob.vec cs) ∈ h ∧ dropN o cs = some l ∧ loadI P t l K := by
  obtain ⟨hi, hx'⟩ := List.getElem?_eq_some_iff.1 hx
  refine ⟨_, _, hm, dropN_some ?_, ?_⟩
  · rw [flat_len hk, ho]
    exact Nat.mul_le_mul_right k (by omega)
  · rw [ho, flat_drop hk, List.drop_eq_getElem_cons hi, hx', List.map_cons, List.flatten_cons]
    exact hl
theorem setC_flat (hk : ∀ a, (enc a).length = k) {L : List α} {i : Nat} {y : α} (hi : i < L.length) : setC (L.map enc).flatten (i * k) (enc y) = ((L.set i y).map enc).flatten := by
  unfold setC
  rw [hk, flat_take hk, show i * k + k = (i + 1) * k by rw [Nat.succ_mul], flat_drop hk, List.set_eq_take_append_cons_drop, if_pos hi]
  simp
theorem stE {b o i : Nat} {h h' : Heap} {L : List α} {l : List AV} {K : AV → Heap → Prop} (y : α) (hk0 : 0 < k) (hk : ∀ a, (enc a).length = k) (hi : i < L.length) (ho : o = i * k) (hl : l = enc y)
    (hu : Upd b (.vec (L.map enc).flatten) b (.vec ((L.set i y).map enc).flatten) h h') (hK : K .unit h') :
    ∃ cs h', Upd b (.vec cs) b (.vec (setC cs o l)) h h' ∧ (0 < l.length ∧ o + l.length ≤ cs.length) ∧ K .unit h' := by
  subst ho hl
  refine ⟨_, h', by rw [setC_flat hk hi]; exact hu, ⟨by rw [hk]; exact hk0, ?_⟩, hK⟩
  rw [hk, flat_len hk, ← Nat.succ_mul]
  exact Nat.mul_le_mul_right k hi
end
/-! ### one by one into an ordered list -/
def bubR {α : Type} (less : α → α → Bool) (u : α) : List α → List α
  | [] => [u]
  | b :: t => if less u b = true then b :: bubR less u t else u :: b :: t
/-- put behind all, then carried to its place -/
def bub {α : Type} (less : α → α → Bool) (L : List α) (u : α) : List α := (bubR less u L.reverse).reverse
theorem bubR_perm {α : Type} {less : α → α → Bool} {u : α} : ∀ {l : List α}, (bubR less u l).Perm (u :: l)
  | [] => .refl _
  | b :: t => by
    unfold bubR
    split
    · exact (List.Perm.cons _ bubR_perm).trans (.swap _ _ _)
    · exact .refl _
theorem bub_perm {α : Type} {less : α → α → Bool} {u : α} {l : List α} : (bub less l u).Perm (u :: l) := by
  unfold bub
  exact (List.reverse_perm _).trans (bubR_perm.trans (List.Perm.cons _ (List.reverse_perm _)))
theorem bubR_sorted {α : Type} {cmp : α → α → Int} (h : OrdW cmp) {u : α} : ∀ {l : List α}, l.Pairwise (fun x y => ¬ cmp x y < 0) → (bubR (fun a b => decide (cmp a b < 0)) u l).Pairwise fun x y => ¬ cmp x y < 0
  | [], _ => by simp [bubR]
  | b :: t, hl => by
    rw [List.pairwise_cons] at hl
    unfold bubR
    split
    · rename_i hc
      rw [decide_eq_true_eq] at hc
      rw [List.pairwise_cons]
      refine ⟨fun x hx => ?_, bubR_sorted h hl.2⟩
      rcases List.mem_cons.1 (bubR_perm.mem_iff.1 hx) with rfl | hx
      · exact fun h2 => h.irr _ (h.tr _ _ _ hc h2)
      · exact hl.1 x hx
    · rename_i hc
      rw [decide_eq_true_eq] at hc
      rw [List.pairwise_cons, List.pairwise_cons]
      refine ⟨fun x hx => ?_, hl⟩
      rcases List.mem_cons.1 hx with rfl | hx
      · exact hc
      · exact h.nt _ _ _ hc (hl.1 x hx)
theorem bub_sorted {α : Type} {cmp : α → α → Int} (h : OrdW cmp) {u : α} {l : List α} (hl : l.Pairwise fun x y => ¬ cmp y x < 0) : (bub (fun a b => decide (cmp a b < 0)) l u).Pairwise fun x y => ¬ cmp y x < 0 := by
  unfold bub
  rw [List.pairwise_reverse]
  exact bubR_sorted h (by rw [List.pairwise_reverse]; exact hl)
/-- one step of the carrying: b is passed -/
theorem bub_pass {α : Type} {less : α → α → Bool} {u b : α} {A B : List α} (h : less u b = true) : bub less (A ++ [b]) u ++ B = bub less A u ++ (b :: B) := by
  unfold bub
  rw [List.reverse_append, List.reverse_singleton, List.singleton_append, bubR, if_pos h, List.reverse_cons, List.append_assoc]
  rfl
theorem bub_stop {α : Type} {less : α → α → Bool} {u b : α} {A B : List α} (h : less u b = false) : bub less (A ++ [b]) u ++ B = A ++ b :: u :: B := by
  unfold bub
  rw [List.reverse_append, List.reverse_singleton, List.singleton_append, bubR, if_neg (by rw [h]; decide), List.reverse_cons, List.reverse_cons, List.reverse_reverse, List.append_assoc, List.append_assoc]
  rfl
end Go.Abs.Wall
set_option maxRecDepth 100000
set_option maxHeartbeats 2000000
set_option linter.unusedVariables false
set_option linter.unusedSimpArgs false
namespace Go.Abs.Wall
open Go Go.Abs Go.Proofs
/-! ### lexicons, the specification's -/
theorem Below.none {α : Type} {p : α → Bool} {l : List α} {i : Nat} (h : Below p l i) : (l.take i).any p = false := by
  rw [List.any_eq_false]
  intro y hy
  obtain ⟨j, hj⟩ := List.mem_iff_getElem?.1 hy
  rw [List.getElem?_take] at hj
  split at hj
  · rename_i h1
    rw [h j y h1 hj]; decide
  · cases hj
end Go.Abs.Wall
set_option maxRecDepth 100000
set_option maxHeartbeats 2000000
set_option linter.unusedVariables false
set_option linter.unusedSimpArgs false
namespace Go.Abs.Wall
open Go Go.Abs Go.Proofs
/-! ### forms, the specification's -/
end Go.Abs.Wall
set_option maxRecDepth 100000
set_option maxHeartbeats 2000000
set_option linter.unusedVariables false
set_option linter.unusedSimpArgs false
namespace Go.Abs.Wall
open Go Go.Abs Go.Proofs
/-! ### houses and uses, the specification's -/
def c94 : Cfg := ⟨[0, 1, 2, 4, 5, 8, 12, 29], [], [], [], [(6, [0, 1, 2, 3, 4, 5, 6, 7, 8, 9, 10, 11, 12, 13, 14], [])], []⟩
def c201 : Cfg := ⟨[0, 1, 2, 4, 5, 6, 11, 31], [], [], [], [], []⟩
def c143 : Cfg := ⟨[0, 1, 2, 3, 6, 7, 8, 12, 22, 30], [], [], [], [], []⟩
def lineE (l : Lst) (line : List Int) : Int := if 60 < line.length then 2 else if line.any (fun s => !wthn s 0 ((l.signs.length : Int) - 1)) = true then 23 else 0
theorem refLine (l : Lst) (line : List Int) (hh : LstFit l) (hl : line.length ≤ LMAX) : QCall Tryz.prog 94 [.agg (encLst l), .sl 1 none (ints line)] [] (.int .i64 (lineE l line)) := by
  unfold LMAX at hl
  refine fcalls (F := Tryz.f94) c94 rfl rfl rfl mixed rfl fun X => ?_
  conv => whnf
  skip
  refine ⟨fun hc => ?_, fun hc => ?_⟩ <;> simp at hc
  · conv => whnf
    exact ⟨by rw [lineE, if_pos (by omega)], rfl⟩
  have h0 : lineE l line = if line.any (fun s => !wthn s 0 ((l.signs.length : Int) - 1)) = true then 23 else 0 := by rw [lineE, if_neg (by omega)]
  conv => whnf
  skip
  refine sloop rfl mixed [1, 2, 5] [] (fun m r h => ∃ (i : Nat), r = [(1, [], .sl 1 none (ints line)), (2, [], .iptr (encLst l)), (5, [], .int .i64 i)] ∧ h = [] ∧ m = line.length - i ∧ i ≤ line.length ∧ line.any (fun s => !wthn s 0 ((l.signs.length : Int) - 1)) = (line.drop i).any (fun s => !wthn s 0 ((l.signs.length : Int) - 1))) ?_ ?_
  · conv => whnf
    exact ⟨_, 0, rfl, rfl, rfl, by omega, rfl⟩
  · rintro m r h ⟨i, rfl, rfl, rfl, hi, ha⟩
    conv => whnf
    skip
    refine ⟨fun he => ?_, fun he => ?_⟩ <;> simp at he
    · obtain ⟨c, hc⟩ := get_lt he
      rw [drop_cons hc, List.any_cons] at ha
      conv => whnf
      repeat ((first | refine ix (by assumption) ?_ | refine And.intro (by show drawOK (opsAt Tryz.f94 _) _ = true; decide +kernel) ?_); conv => whnf)
      refine ⟨fun hq => ?_, fun hq => ?_⟩
      · have hq : (decide (c < 0) || decide (((l.signs.map encSgn).length : Int) ≤ c)) = true := hq
        rw [List.length_map] at hq
        have hw : wthn c 0 ((l.signs.length : Int) - 1) = false := by rw [← Bool.not_eq_true, wthn_iff]; simp at hq; omega
        rw [hw, Bool.not_false, Bool.true_or] at ha
        conv => whnf
        skip
        exact ⟨by rw [h0, if_pos ha], rfl⟩
      · have hq : (decide (c < 0) || decide (((l.signs.map encSgn).length : Int) ≤ c)) = false := hq
        rw [List.length_map] at hq
        have hw : wthn c 0 ((l.signs.length : Int) - 1) = true := by rw [wthn_iff]; simp at hq; omega
        rw [hw, Bool.not_true, Bool.false_or] at ha
        conv => whnf
        repeat (refine ⟨gP_of ⟨by omega, by omega⟩, ?_⟩; conv => whnf)
        exact ⟨_, by omega, i + 1, rfl, rfl, rfl, by omega, ha⟩
    · rw [drop_nil he, List.any_nil] at ha
      conv => whnf
      skip
      exact ⟨by rw [h0, if_neg (by rw [ha]; decide)], rfl⟩
/-! one use into the list -/
theorem mid_get {α : Type} {A B : List α} {u : α} {n : Nat} (h : A.length = n) : (A ++ u :: B)[n]? = some u := by subst h; simp
theorem row_ofL {α : Type} {k : Nat} {enc : α → List AV} {L : List α} {b n : Nat} (hn : L.length = n) (hne : L ≠ []) : Row k enc L (.osl b 0 n k) [(b, .vec (L.map enc).flatten)] := by
  subst hn
  exact .inr ⟨hne, b, rfl, rfl⟩
theorem split_at {α : Type} {L : List α} {m : Nat} (h0 : 0 < m) (hm : m ≤ L.length) : ∃ b, L[m - 1]? = some b ∧ L.take m = L.take (m - 1) ++ [b] ∧ L.drop (m - 1) = b :: L.drop m := by
  obtain ⟨b, hb⟩ := get_lt (l := L) (i := m - 1) (by omega)
  refine ⟨b, hb, ?_, ?_⟩
  · have := take_snoc hb
    rwa [show m - 1 + 1 = m by omega] at this
  · have := drop_cons hb
    rwa [show m - 1 + 1 = m by omega] at this
theorem swap_mid {α : Type} {A B : List α} {b u : α} {m : Nat} (hA : A.length = m - 1) (h0 : 0 < m) : (((A ++ [b]) ++ u :: B).set m b).set (m - 1) u = A ++ u :: b :: B := by
  rw [List.append_assoc]
  rw [List.set_append_right _ _ (by omega), List.set_append_right _ _ (by omega)]
  rw [hA, show m - (m - 1) = 1 by omega, show m - 1 - (m - 1) = 0 by omega]
  rfl
def inUse (p : Int) (v : Val) : Bool := wthn p v.fr v.to
theorem take_snocF {α : Type} {l : List α} {i : Nat} {x : α} {f : α → Bool} (h : l[i]? = some x) : (l.take (i + 1)).filter f = (l.take i).filter f ++ (if f x = true then [x] else []) := by
  rw [take_snoc h, List.filter_append]
  congr 1
  by_cases hf : f x = true <;> simp [hf]
theorem refInUse (s : Sgn) (p : Int) (hs : s.values.length ≤ 1048576) : QCall Tryz.prog 201 [.agg (encSgn s), .int .i64 p] [] (.sl 4 none ((s.values.filter (inUse p)).map encVal)) := by
  refine QCall.of (fcalls (F := Tryz.f201) c201 rfl rfl rfl mixed rfl fun X => ?_)
  conv => whnf
  skip
  refine tloop rfl mixed [1, 2, 5, 6] [] (fun m r h => ∃ (i : Nat) (v : AV) (hp : Heap), r = [(1, [], .int .i64 p), (2, [], .iptr (encSgn s)), (5, [], v), (6, [], .int .i64 i)] ∧ h = hp ∧ m = s.values.length - i ∧ i ≤ s.values.length ∧ Out 4 encVal ((s.values.take i).filter (inUse p)) v hp) ?_ ?_
  · conv => whnf
    exact ⟨_, _, Turn.refl _ _, _, 0, _, _, rfl, rfl, rfl, by omega, .inl ⟨rfl, rfl, rfl⟩⟩
  · rintro m r h' ⟨i, v, hp, rfl, rfl, rfl, hi, ho⟩
    conv => whnf
    skip
    refine ⟨fun hi2 => ?_, fun hi2 => ?_⟩ <;> simp at hi2
    · obtain ⟨x, hx⟩ := get_lt hi2
      have htk := take_snocF (f := inUse p) hx
      have hlen : ((s.values.take i).filter (inUse p)).length ≤ i := by
        have := List.length_filter_le (inUse p) (s.values.take i)
        rw [List.length_take] at this; omega
      conv => whnf
      repeat (refine ix (by assumption) ?_; conv => whnf)
      refine ⟨fun hq => ?_, fun hq => ?_⟩
      · have hq : inUse p x = true := hq
        rw [hq, if_pos rfl] at htk
        rcases ho with ⟨he, rfl, rfl⟩ | ⟨q, rfl, rfl⟩
        all_goals
          conv => whnf
          repeat ((first | refine ⟨gP_of ⟨by omega, by omega⟩, ?_⟩ | refine ix (by assumption) ?_ | (refine ⟨Nat.le_of_ble_eq_true rfl, fun q' => ?_⟩) | (refine ⟨(by simp; unfold AMAX; omega), fun q' => ⟨_, .here _, ?_⟩⟩)); conv => whnf)
          refine ⟨_, _, Turn.refl _ _, _, (by omega), i + 1, _, _, rfl, rfl, rfl, by omega, .inr ⟨q', ?_, rfl⟩⟩
          rw [htk, List.map_append]
          first | rfl | (rw [he]; rfl)
      · have hq : inUse p x = false := hq
        rw [if_neg (by rw [hq]; decide), List.append_nil] at htk
        conv => whnf
        repeat (refine ⟨gP_of ⟨by omega, by omega⟩, ?_⟩; conv => whnf)
        exact ⟨_, _, Turn.refl _ _, _, (by omega), i + 1, _, _, rfl, rfl, rfl, by omega, by rw [htk]; exact ho⟩
    · rw [List.take_of_length_le hi2] at ho
      conv => whnf
      skip
      exact ho.le (by decide)
theorem refValues (l : Lst) (n p : Int) (s : Sgn) (hl : LstFit l) (h0 : 0 ≤ n) (hs : l.signs[n.toNat]? = some s) (hv : s.values.length ≤ 1048576) (he : lstErr l = 0) (hp : 1 ≤ p ∧ p ≤ l.periods) :
    QCall Tryz.prog 143 [.agg (encLst l), .int .i64 n, .int .i64 p] [] (.tup [.sl 4 none ((s.values.filter (inUse p)).map encVal), .int .i64 0]) := by
  have hlt := (List.getElem?_eq_some_iff.1 hs).1
  refine fcalls (F := Tryz.f143) c143 rfl rfl rfl mixed rfl fun X => ?_
  conv => whnf
  repeat (refine QCall.k0 (refCheck l hl) ?_; conv => whnf)
  rw [he]
  refine cF rfl ?_
  conv => whnf
  skip
  refine cF (by rw [List.length_map]; simp; omega) ?_
  conv => whnf
  skip
  refine cF (by simp; omega) ?_
  conv => whnf
  repeat ((first | (refine ixn n.toNat (by omega) hs ?_) | refine QCall.k0 (refInUse s p hv) ?_); conv => whnf)
  exact ⟨rfl, rfl⟩
end Go.Abs.Wall
set_option maxRecDepth 100000
set_option maxHeartbeats 2000000
set_option linter.unusedVariables false
set_option linter.unusedSimpArgs false
namespace Go.Abs.Wall
open Go Go.Abs Go.Proofs
/-! ### both lists of uses are the same -/
end Go.Abs.Wall
set_option maxRecDepth 100000
set_option maxHeartbeats 2000000
set_option linter.unusedVariables false
set_option linter.unusedSimpArgs false
namespace Go.Abs.Wall
open Go Go.Abs Go.Proofs
end Go.Abs.Wall
set_option maxRecDepth 100000
set_option maxHeartbeats 2000000
set_option linter.unusedVariables false
namespace Go.Abs.Wall
open Go Go.Abs Go.Proofs Go.Proofs.YthkokengobdgcaaGreat.Br
/-! ### plain data -/
def ShParts (P : Program) (B : Nat) : List TypeId → List (List AV) → Prop
  | [], [] => True
  | t :: ts, p :: ps => Sh P B t p ∧ ShParts P B ts ps
  | _, _ => False
theorem sh_parts {P : Program} {B : Nat} : ∀ {ts : List TypeId} {ps : List (List AV)}, ps.length = ts.length → (∀ (i : Nat) t p, ts[i]? = some t → ps[i]? = some p → Sh P B t p) → ShParts P B ts ps
  | [], [], _, _ => trivial
  | t :: ts, p :: ps, hl, h => ⟨h 0 t p rfl rfl, sh_parts (by simpa using hl) fun i t' p' h1 h2 => h (i + 1) t' p' (by simpa using h1) (by simpa using h2)⟩
  | [], _ :: _, hl, _ => by simp at hl
  | _ :: _, [], hl, _ => by simp at hl
theorem sh_struct {P : Program} {B : Nat} {t : TypeId} {fs : Array Field} {xs : List AV} (h : Sh P B t xs) (hu : P.underlying t = some (.struct fs)) : ∃ ps, xs = ps.flatten ∧ ShParts P B (fs.toList.map (·.type)) ps := by
  cases h with
  | bool h1 => rw [hu] at h1; cases h1
  | int h1 _ => rw [hu] at h1; cases h1
  | str h1 _ => rw [hu] at h1; cases h1
  | slice h1 _ _ => rw [hu] at h1; cases h1
  | @struct _ fs' ps h1 hl hp =>
    rw [hu] at h1; cases h1
    refine ⟨ps, rfl, sh_parts (by simpa using hl) fun i t p h1 h2 => ?_⟩
    rw [List.getElem?_map] at h1
    cases hf : fs.toList[i]? with
    | none => rw [hf] at h1; cases h1
    | some f => rw [hf] at h1; cases h1; exact hp i f p hf h2
  | array h1 hl hp => rw [hu] at h1; cases h1
theorem sh_int {P : Program} {B : Nat} {t : TypeId} {k : IntKind} {xs : List AV} (h : Sh P B t xs) (hu : P.underlying t = some (.int k)) : ∃ n : Int, xs = [.int k n] ∧ k.has n := by
  cases h with
  | bool h1 => rw [hu] at h1; cases h1
  | int h1 h2 => rw [hu] at h1; cases h1; exact ⟨_, rfl, wf_has h2⟩
  | str h1 _ => rw [hu] at h1; cases h1
  | slice h1 _ _ => rw [hu] at h1; cases h1
  | struct h1 hl hp => rw [hu] at h1; cases h1
  | array h1 hl hp => rw [hu] at h1; cases h1
theorem sh_bool {P : Program} {B : Nat} {t : TypeId} {xs : List AV} (h : Sh P B t xs) (hu : P.underlying t = some .bool) : ∃ b : Bool, xs = [.bool b] := by
  cases h with
  | bool h1 => exact ⟨_, rfl⟩
  | int h1 h2 => rw [hu] at h1; cases h1
  | str h1 _ => rw [hu] at h1; cases h1
  | slice h1 _ _ => rw [hu] at h1; cases h1
  | struct h1 hl hp => rw [hu] at h1; cases h1
  | array h1 hl hp => rw [hu] at h1; cases h1
theorem sh_str {P : Program} {B : Nat} {t : TypeId} {xs : List AV} (h : Sh P B t xs) (hu : P.underlying t = some .string) : ∃ s, xs = [.str s] ∧ s.length ≤ B := by
  cases h with
  | bool h1 => rw [hu] at h1; cases h1
  | int h1 h2 => rw [hu] at h1; cases h1
  | str h1 h2 => exact ⟨_, rfl, h2⟩
  | slice h1 _ _ => rw [hu] at h1; cases h1
  | struct h1 hl hp => rw [hu] at h1; cases h1
  | array h1 hl hp => rw [hu] at h1; cases h1
theorem sh_list {P : Program} {B : Nat} {t e : TypeId} {xs : List AV} {α : Type} {enc : α → List AV} {Fit : α → Prop} (h : Sh P B t xs) (hu : P.underlying t = some (.slice e)) (he : ∀ y, Sh P B e y → ∃ a, y = enc a ∧ Fit a) :
    ∃ l : List α, xs = [.sl (P.cellsOf e) none (l.map enc)] ∧ l.length ≤ B ∧ ∀ a ∈ l, Fit a := by
  cases h with
  | bool h1 => rw [hu] at h1; cases h1
  | int h1 h2 => rw [hu] at h1; cases h1
  | str h1 _ => rw [hu] at h1; cases h1
  | @slice _ e' ys h1 h2 h3 =>
    rw [hu] at h1; cases h1
    suffices hk : ∃ l : List α, ys = l.map enc ∧ ∀ a ∈ l, Fit a by
      obtain ⟨l, rfl, hf⟩ := hk
      exact ⟨l, rfl, by simpa using h2, hf⟩
    clear h2
    induction ys with
    | nil => exact ⟨[], rfl, by simp⟩
    | cons y ys ih =>
      obtain ⟨l, rfl, hf⟩ := ih fun z hz => h3 z (by simp [hz])
      obtain ⟨a, rfl, ha⟩ := he y (h3 y (by simp))
      exact ⟨a :: l, rfl, fun b hb => by rcases List.mem_cons.1 hb with rfl | hb; exact ha; exact hf b hb⟩
  | struct h1 hl hp => rw [hu] at h1; cases h1
  | array h1 hl hp => rw [hu] at h1; cases h1
theorem sh2 {P : Program} {B : Nat} {a b : TypeId} {ps : List (List AV)} (h : ShParts P B [a, b] ps) : ∃ x y, ps = [x, y] ∧ Sh P B a x ∧ Sh P B b y := by
  match ps, h with
  | [x, y], ⟨h1, h2, _⟩ => exact ⟨x, y, rfl, h1, h2⟩
theorem sh4 {P : Program} {B : Nat} {a b c d : TypeId} {ps : List (List AV)} (h : ShParts P B [a, b, c, d] ps) : ∃ x y z u, ps = [x, y, z, u] ∧ Sh P B a x ∧ Sh P B b y ∧ Sh P B c z ∧ Sh P B d u := by
  match ps, h with
  | [x, y, z, u], ⟨h1, h2, h3, h4, _⟩ => exact ⟨x, y, z, u, rfl, h1, h2, h3, h4⟩
theorem sh5 {P : Program} {B : Nat} {a b c d e : TypeId} {ps : List (List AV)} (h : ShParts P B [a, b, c, d, e] ps) : ∃ x y z u v, ps = [x, y, z, u, v] ∧ Sh P B a x ∧ Sh P B b y ∧ Sh P B c z ∧ Sh P B d u ∧ Sh P B e v := by
  match ps, h with
  | [x, y, z, u, v], ⟨h1, h2, h3, h4, h5, _⟩ => exact ⟨x, y, z, u, v, rfl, h1, h2, h3, h4, h5⟩
abbrev B20 : Nat := 1048576
theorem b20 {n : Nat} (h : n ≤ B20) : n ≤ LMAX := by unfold LMAX; unfold B20 at h; omega
theorem shInt {xs : List AV} (h : Sh Tryz.prog B20 3 xs) : ∃ n : Int, xs = [.int .i64 n] ∧ IntKind.i64.has n := sh_int h rfl
theorem shInts {xs : List AV} (h : Sh Tryz.prog B20 45 xs) : ∃ l : List Int, xs = [.sl 1 none (ints l)] ∧ l.length ≤ B20 ∧ ∀ a ∈ l, IntKind.i64.has a :=
  sh_list (enc := fun x => [AV.int .i64 x]) h rfl fun y hy => shInt hy
theorem shVal {xs : List AV} (h : Sh Tryz.prog B20 131 xs) : ∃ v : Val, xs = encVal v ∧ v.text.length ≤ B20 := by
  obtain ⟨ps, rfl, hp⟩ := sh_struct h rfl
  obtain ⟨x, y, z, u, rfl, h1, h2, h3, h4⟩ := sh4 hp
  obtain ⟨a, rfl, _⟩ := shInt h1
  obtain ⟨b, rfl, hb⟩ := sh_str h2 rfl
  obtain ⟨c, rfl, _⟩ := shInt h3
  obtain ⟨d, rfl, _⟩ := shInt h4
  exact ⟨⟨a, b, c, d⟩, rfl, hb⟩
/-- a word as an argument -/
structure WrdArg (w : Wrd) : Prop where
  cl : w.form.clitics.length ≤ B20
  us : w.uses.length ≤ B20
  text : ∀ u ∈ w.uses, u.text.length ≤ B20
theorem argInt {x : AV} (h : ArgSh Tryz.prog B20 3 x) : ∃ n : Int, x = .int .i64 n ∧ IntKind.i64.has n := by
  obtain ⟨xs, h, hx⟩ := h
  have hx : xs = [x] := hx
  obtain ⟨n, h1, h2⟩ := shInt h
  rw [hx] at h1
  cases h1
  exact ⟨n, rfl, h2⟩
theorem args3 {ts : List TypeId} {a b c : TypeId} {xs : List AV} (ht : ts = [a, b, c]) (h : ArgShs Tryz.prog B20 ts xs) : ∃ x y z, xs = [x, y, z] ∧ ArgSh Tryz.prog B20 a x ∧ ArgSh Tryz.prog B20 b y ∧ ArgSh Tryz.prog B20 c z := by
  subst ht
  match xs, h with
  | [x, y, z], ⟨h1, h2, h3, _⟩ => exact ⟨x, y, z, rfl, h1, h2, h3⟩
def PairHas (p : Int × Int) : Prop := IntKind.i64.has p.1 ∧ IntKind.i64.has p.2
structure Bnd where
  table : List Int
  changes : List (Int × Int)
  cost : Int
structure BndArg (b : Bnd) : Prop where
  table : b.table.length ≤ B20
  has : ∀ a ∈ b.table, IntKind.i64.has a
  many : b.changes.length ≤ B20
  pairs : ∀ p ∈ b.changes, PairHas p
structure Cas where
  house : Hou
  line : List Int
end Go.Abs.Wall

