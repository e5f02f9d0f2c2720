/- What is proved: small laws for the walks of this seat, and contracts of its functions. No condition but those each theorem names. -/
import Derived.Test.YthkokengobdgcaaGreatN19
import Derived.Test.YthkokengobdgcaaGreatN11
import Derived.Test.YthkokengobdgcaaGreatN20
set_option maxRecDepth 100000
set_option maxHeartbeats 2000000
set_option linter.unusedVariables false
set_option linter.unusedSimpArgs false
namespace Go.Abs.Wall
open Go Go.Abs Go.Proofs
/-! ### lines that are readable with some entries (no program in sight) -/
structure Lnk where
  entry : Int
  to : Int
deriving DecidableEq
def lnkOf (x : Edg) : Lnk := ⟨x.word.form.entry, x.to⟩
def mkL (want : Int → Bool) (a : Nat) : List Lnk → List Bool → List Bool
  | [], l => l
  | x :: t, l => mkL want a t (if (l.getD a false && want x.entry) = true then l.set x.to.toNat true else l)
def rdGo (want : Int → Bool) : List (List Lnk) → Nat → List Bool → List Bool
  | [], _, l => l
  | es :: g, i, l => rdGo want g (i + 1) (mkL want i es l)
def rdL (want : Int → Bool) (g : List (List Lnk)) : List Bool := rdGo want g 0 ((List.replicate (g.length + 1) false).set 0 true)
def rdM (want : Int → Bool) (g : List (List Lnk)) : Bool := (rdL want g).getD g.length false
theorem mkL_len (want : Int → Bool) (a : Nat) : ∀ (es : List Lnk) (l : List Bool), (mkL want a es l).length = l.length
  | [], l => rfl
  | x :: t, l => by
    unfold mkL
    rw [mkL_len want a t]
    split <;> simp
theorem mkL_off {want : Int → Bool} {a : Nat} : ∀ {es : List Lnk} {l : List Bool}, l.getD a false = false → mkL want a es l = l
  | [], l, _ => rfl
  | x :: t, l, h => by
    unfold mkL
    rw [if_neg (by rw [h]; simp)]
    exact mkL_off h
/-- links lead on, to the end at most -/
def LOK (g : List (List Lnk)) : Prop := ∀ (i : Nat) es, g[i]? = some es → ∀ x ∈ es, (i : Int) < x.to ∧ x.to ≤ g.length
inductive Rch (g : List (List Lnk)) (want : Int → Bool) : Nat → Prop
  | zero : Rch g want 0
  | step {i : Nat} {es : List Lnk} {x : Lnk} : Rch g want i → g[i]? = some es → x ∈ es → want x.entry = true → Rch g want x.to.toNat
theorem gdSet {l : List Bool} {i j : Nat} : (l.set i true).getD j false = (decide (i = j ∧ j < l.length) || l.getD j false) := by
  rw [List.getD_eq_getElem?_getD, List.getD_eq_getElem?_getD, List.getElem?_set]
  by_cases h : i = j
  · subst h
    by_cases h2 : i < l.length
    · simp [h2]
    · simp [h2]
  · simp [h]
theorem mkL_sound {g : List (List Lnk)} {want : Int → Bool} {a : Nat} {all : List Lnk} (ha : g[a]? = some all) : ∀ (es : List Lnk) (l : List Bool), (∀ x ∈ es, x ∈ all) →
    (∀ j, l.getD j false = true → Rch g want j) → ∀ j, (mkL want a es l).getD j false = true → Rch g want j
  | [], l, _, h, j, hj => h j hj
  | x :: t, l, hs, h, j, hj => by
    unfold mkL at hj
    refine mkL_sound ha t _ (fun y hy => hs y (List.mem_cons_of_mem _ hy)) ?_ j hj
    intro k hk
    split at hk
    · rename_i hc
      rw [Bool.and_eq_true] at hc
      rw [gdSet, Bool.or_eq_true, decide_eq_true_eq] at hk
      rcases hk with ⟨rfl, _⟩ | hk
      · exact .step (h a hc.1) ha (hs x (List.mem_cons_self ..)) hc.2
      · exact h k hk
    · exact h k hk
theorem rdGo_sound {g : List (List Lnk)} {want : Int → Bool} : ∀ (d i : Nat) (l : List Bool), i + d = g.length →
    (∀ j, l.getD j false = true → Rch g want j) → ∀ j, (rdGo want (g.drop i) i l).getD j false = true → Rch g want j
  | 0, i, l, hi, h, j, hj => by
    rw [drop_nil (by omega)] at hj
    exact h j hj
  | d + 1, i, l, hi, h, j, hj => by
    obtain ⟨es, hes⟩ := get_lt (l := g) (i := i) (by omega)
    rw [drop_cons hes, rdGo] at hj
    exact rdGo_sound d (i + 1) _ (by omega) (mkL_sound hes es l (fun _ h => h) h) j hj
theorem mkL_keep {want : Int → Bool} {a : Nat} : ∀ (es : List Lnk) (l : List Bool) (j : Nat), l.getD j false = true → (mkL want a es l).getD j false = true
  | [], l, j, h => h
  | x :: t, l, j, h => by
    unfold mkL
    refine mkL_keep t _ j ?_
    split
    · rw [gdSet, h, Bool.or_true]
    · exact h
theorem mkL_all {want : Int → Bool} {a : Nat} : ∀ (es : List Lnk) (l : List Bool), l.getD a false = true → ∀ x ∈ es, want x.entry = true → x.to.toNat < l.length → (mkL want a es l).getD x.to.toNat false = true
  | [], l, h, x, hx, _, _ => by cases hx
  | y :: t, l, h, x, hx, hw, hl => by
    unfold mkL
    rcases List.mem_cons.1 hx with rfl | hx
    · refine mkL_keep t _ _ ?_
      rw [if_pos (by rw [h, hw]; rfl), gdSet]
      simp [hl]
    · refine mkL_all t _ ?_ x hx hw ?_
      · split
        · rw [gdSet, h, Bool.or_true]
        · exact h
      · split
        · rw [List.length_set]; exact hl
        · exact hl
theorem rdGo_full {g : List (List Lnk)} {want : Int → Bool} (hg : LOK g) : ∀ (d i : Nat) (l : List Bool), i + d = g.length → l.length = g.length + 1 → l.getD 0 false = true →
    (∀ (i' : Nat) es x, i' < i → Rch g want i' → g[i']? = some es → x ∈ es → want x.entry = true → l.getD x.to.toNat false = true) →
    ∀ j, Rch g want j → (rdGo want (g.drop i) i l).getD j false = true
  | 0, i, l, hi, hl, h0, h, j, hj => by
    rw [drop_nil (by omega)]
    cases hj with
    | zero => exact h0
    | step h1 h2 h3 h4 => exact h _ _ _ (by have := (List.getElem?_eq_some_iff.1 h2).1; omega) h1 h2 h3 h4
  | d + 1, i, l, hi, hl, h0, h, j, hj => by
    obtain ⟨es, hes⟩ := get_lt (l := g) (i := i) (by omega)
    rw [drop_cons hes, rdGo]
    refine rdGo_full hg d (i + 1) _ (by omega) (by rw [mkL_len]; exact hl) (mkL_keep es l 0 h0) ?_ j hj
    intro i' es' x hi' hr he hx hw
    by_cases hlt : i' < i
    · exact mkL_keep es l _ (h i' es' x hlt hr he hx hw)
    · have : i' = i := by omega
      subst this
      rw [hes] at he
      cases he
      have hto := hg i' es hes x hx
      refine mkL_all es l ?_ x hx hw (by omega)
      have hri := hr
      generalize hk : i' = k at hr
      cases hr with
      | zero => subst hk; exact h0
      | step h1 h2 h3 h4 =>
        rename_i a esA y
        have := hg a esA h2 y h3
        exact h a esA y (by omega) h1 h2 h3 h4
theorem rdM_iff {g : List (List Lnk)} {want : Int → Bool} (hg : LOK g) : rdM want g = true ↔ Rch g want g.length := by
  have h0 : ((List.replicate (g.length + 1) false).set 0 true).getD 0 false = true := by rw [gdSet]; simp
  constructor
  · intro h
    refine rdGo_sound g.length 0 _ (by omega) ?_ _ h
    intro j hj
    rw [gdSet, Bool.or_eq_true, decide_eq_true_eq] at hj
    rcases hj with ⟨rfl, _⟩ | hj
    · exact .zero
    · rw [List.getD_eq_getElem?_getD, List.getElem?_replicate] at hj
      split at hj <;> cases hj
  · intro h
    exact rdGo_full hg g.length 0 _ (by omega) (by simp) h0 (fun i' es x hi' => absurd hi' (by omega)) _ h
/-- the same links, in whatever order and however often -/
theorem Rch.mono {g g' : List (List Lnk)} {w w' : Int → Bool} (h : ∀ (i : Nat) es x, g[i]? = some es → x ∈ es → w x.entry = true → ∃ es', g'[i]? = some es' ∧ ∃ y ∈ es', y.to = x.to ∧ w' y.entry = true) {j : Nat} (hr : Rch g w j) : Rch g' w' j := by
  induction hr with
  | zero => exact .zero
  | step h1 h2 h3 h4 ih =>
    obtain ⟨es', e1, y, e2, e3, e4⟩ := h _ _ _ h2 h3 h4
    rw [← e3]
    exact .step ih e1 e2 e4
theorem rdM_mono {g : List (List Lnk)} {w w' : Int → Bool} (hg : LOK g) (h : ∀ es ∈ g, ∀ x ∈ es, w x.entry = true → w' x.entry = true) (hr : rdM w g = true) : rdM w' g = true :=
  (rdM_iff hg).2 (((rdM_iff hg).1 hr).mono fun i es x h1 h2 h3 => ⟨es, h1, x, h2, rfl, h es (List.mem_of_getElem? h1) x h2 h3⟩)
theorem rdM_congr {g : List (List Lnk)} {w w' : Int → Bool} (hg : LOK g) (h : ∀ es ∈ g, ∀ x ∈ es, w x.entry = w' x.entry) : rdM w g = rdM w' g := by
  rw [Bool.eq_iff_iff]
  exact ⟨rdM_mono hg fun es h1 x h2 h3 => by rw [← h es h1 x h2]; exact h3, rdM_mono hg fun es h1 x h2 h3 => by rw [h es h1 x h2]; exact h3⟩
/-! equal neighbours once -/
def cpt {α : Type} [DecidableEq α] : List α → List α
  | [] => []
  | [x] => [x]
  | x :: y :: r => if x = y then cpt (y :: r) else x :: cpt (y :: r)
theorem cpt_mem {α : Type} [DecidableEq α] {x : α} : ∀ {l : List α}, x ∈ cpt l ↔ x ∈ l
  | [] => by simp [cpt]
  | [y] => by simp [cpt]
  | y :: z :: r => by
    unfold cpt
    have ih := cpt_mem (x := x) (l := z :: r)
    split
    · rename_i h
      subst h
      rw [ih]
      simp
    · rw [List.mem_cons, ih, List.mem_cons (a := x) (b := y)]
theorem LOK.cpt {g : List (List Lnk)} (hg : LOK g) : LOK (g.map cpt) := by
  intro i es hes x hx
  rw [List.getElem?_map] at hes
  obtain ⟨fs, hf, rfl⟩ := Option.map_eq_some_iff.1 hes
  rw [List.length_map]
  exact hg i fs hf x (cpt_mem.1 hx)
theorem rdM_cpt {g : List (List Lnk)} {w : Int → Bool} (hg : LOK g) : rdM w (g.map cpt) = rdM w g := by
  rw [Bool.eq_iff_iff, rdM_iff hg.cpt, rdM_iff hg, List.length_map]
  constructor
  · refine Rch.mono fun i es x h1 h2 h3 => ?_
    rw [List.getElem?_map] at h1
    obtain ⟨fs, hf, rfl⟩ := Option.map_eq_some_iff.1 h1
    exact ⟨fs, hf, x, cpt_mem.1 h2, rfl, h3⟩
  · refine Rch.mono fun i es x h1 h2 h3 => ?_
    exact ⟨_, by rw [List.getElem?_map, h1]; rfl, x, cpt_mem.2 h2, rfl, h3⟩
end Go.Abs.Wall
set_option maxRecDepth 100000
set_option maxHeartbeats 2000000
set_option linter.unusedVariables false
set_option linter.unusedSimpArgs false
namespace Go.Abs.Wall
open Go Go.Abs Go.Proofs
/-! ### a corpus, choices, and the entries that are needed (no program in sight) -/
abbrev Cor := List (List (List Lnk))
def allB (C : Cor) (w : Int → Bool) : Bool := C.all (rdM w)
def but (w : Int → Bool) (e : Int) : Int → Bool := fun x => !decide (x = e) && w x
def everyW : Int → Bool := fun _ => true
def memW (keep : List Int) : Int → Bool := fun x => decide (x ∈ keep)
def needsF (C : Cor) (w : Int → Bool) (e : Int) (i : Nat) : Bool := rdM w (C.getD i []) && !rdM (but w e) (C.getD i [])
def needsM (C : Cor) (w : Int → Bool) (e : Int) : List Int := ((List.range C.length).filter (needsF C w e)).map fun i : Nat => (i : Int)
structure Nd where
  entry : Int
  lines : List Int
deriving DecidableEq
def indGo (C : Cor) : Nat → (Int → Bool) → (Int → Bool)
  | 0, w => w
  | e + 1, w => indGo C e (if allB C (but w e) = true then but w e else w)
def indW (C : Cor) (N : Nat) : Int → Bool := indGo C N everyW
def keepF (w : Int → Bool) (i : Nat) : Bool := w (i : Int)
def keepL (N : Nat) (w : Int → Bool) : List Int := ((List.range N).filter (keepF w)).map fun i : Nat => (i : Int)
def ndOf (C : Cor) (w : Int → Bool) (e : Int) : Nd := ⟨e, needsM C w e⟩
def indL (C : Cor) (N : Nat) : List Nd := (keepL N (indW C N)).map (ndOf C (indW C N))
/-- links on, to the end at most; entries from 0 to below N -/
structure COK (N : Nat) (C : Cor) : Prop where
  links : ∀ g ∈ C, LOK g
  ents : ∀ g ∈ C, ∀ es ∈ g, ∀ x ∈ es, 0 ≤ x.entry ∧ x.entry < N
theorem keepL_mem {N : Nat} {w : Int → Bool} {x : Int} : x ∈ keepL N w ↔ 0 ≤ x ∧ x < N ∧ w x = true := by
  unfold keepL keepF
  rw [List.mem_map]
  constructor
  · rintro ⟨i, hi, rfl⟩
    rw [List.mem_filter, List.mem_range] at hi
    exact ⟨by omega, by omega, hi.2⟩
  · rintro ⟨h0, h1, h2⟩
    refine ⟨x.toNat, ?_, by omega⟩
    rw [List.mem_filter, List.mem_range]
    exact ⟨by omega, by show w (x.toNat : Int) = true; rw [show (x.toNat : Int) = x by omega]; exact h2⟩
theorem keepL_up {N : Nat} {w : Int → Bool} : (keepL N w).Pairwise (· < ·) := by
  unfold keepL
  rw [List.pairwise_map]
  refine List.Pairwise.filter _ ?_
  exact List.pairwise_lt_range.imp fun h => by omega
theorem up_unique : ∀ {a b : List Int}, a.Pairwise (· < ·) → b.Pairwise (· < ·) → (∀ x, x ∈ a ↔ x ∈ b) → a = b
  | [], [], _, _, _ => rfl
  | [], y :: b, _, _, h => absurd ((h y).2 (List.mem_cons_self ..)) (by simp)
  | x :: a, [], _, _, h => absurd ((h x).1 (List.mem_cons_self ..)) (by simp)
  | x :: a, y :: b, ha, hb, h => by
    rw [List.pairwise_cons] at ha hb
    have h1 := (h x).1 (List.mem_cons_self ..)
    have h2 := (h y).2 (List.mem_cons_self ..)
    have hxy : x = y := by
      rcases List.mem_cons.1 h1 with e | h1
      · exact e
      rcases List.mem_cons.1 h2 with e | h2
      · exact e.symm
      have := hb.1 x h1
      have := ha.1 y h2
      omega
    subst hxy
    rw [up_unique ha.2 hb.2 fun z => ⟨fun hz => ?_, fun hz => ?_⟩]
    · have := ha.1 z hz
      rcases List.mem_cons.1 ((h z).1 (List.mem_cons_of_mem _ hz)) with e | h3
      · omega
      · exact h3
    · have := hb.1 z hz
      rcases List.mem_cons.1 ((h z).2 (List.mem_cons_of_mem _ hz)) with e | h3
      · omega
      · exact h3
theorem rdM_mem {N : Nat} {C : Cor} (hc : COK N C) {w : Int → Bool} {g : List (List Lnk)} (hg : g ∈ C) : rdM (memW (keepL N w)) g = rdM w g := by
  refine rdM_congr (hc.links g hg) fun es hes x hx => ?_
  have h1 := hc.ents g hg es hes x hx
  rw [Bool.eq_iff_iff]
  unfold memW
  rw [decide_eq_true_eq, keepL_mem]
  exact ⟨fun h => h.2.2, fun h => ⟨h1.1, h1.2, h⟩⟩
theorem allB_congr {C : Cor} {w w' : Int → Bool} (h : ∀ g ∈ C, rdM w g = rdM w' g) : allB C w = allB C w' := by
  unfold allB
  rw [Bool.eq_iff_iff, List.all_eq_true, List.all_eq_true]
  exact ⟨fun h1 g hg => by rw [← h g hg]; exact h1 g hg, fun h1 g hg => by rw [h g hg]; exact h1 g hg⟩
theorem allB_mem {N : Nat} {C : Cor} (hc : COK N C) (w : Int → Bool) : allB C (memW (keepL N w)) = allB C w := allB_congr fun g hg => rdM_mem hc hg
theorem without_keep (N : Nat) (w : Int → Bool) (e : Int) : (keepL N w).filter (fun x => !decide (x = e)) = keepL N (but w e) := by
  refine up_unique (keepL_up.filter _) keepL_up fun x => ?_
  rw [List.mem_filter, keepL_mem, keepL_mem]
  unfold but
  simp
  constructor
  · rintro ⟨⟨a, b, c⟩, d⟩; exact ⟨a, b, d, c⟩
  · rintro ⟨a, b, d, c⟩; exact ⟨⟨a, b, c⟩, d⟩
/-! what Induce keeps -/
theorem allB_mono {N : Nat} {C : Cor} (hc : COK N C) {w w' : Int → Bool} (h : ∀ x, w x = true → w' x = true) (ha : allB C w = true) : allB C w' = true := by
  unfold allB at ha ⊢
  rw [List.all_eq_true] at ha ⊢
  exact fun g hg => rdM_mono (hc.links g hg) (fun _ _ x _ => h x.entry) (ha g hg)
theorem indGo_all {C : Cor} : ∀ (n : Nat) (w : Int → Bool), allB C w = true → allB C (indGo C n w) = true
  | 0, w, h => h
  | n + 1, w, h => by
    unfold indGo
    refine indGo_all n _ ?_
    split
    · assumption
    · exact h
end Go.Abs.Wall
set_option maxRecDepth 100000
set_option maxHeartbeats 2000000
set_option linter.unusedVariables false
set_option linter.unusedSimpArgs false
namespace Go.Abs.Wall
open Go Go.Abs Go.Proofs
/-! ### the smallest choice (no program in sight) -/
/-- the first choice of some entries and n more -/
def pickM (ok : List Int → Bool) : List Int → List Int → Nat → Option (List Int)
  | fixed, _, 0 => if ok fixed = true then some fixed else none
  | _, [], _ + 1 => none
  | fixed, x :: t, n + 1 => match pickM ok (fixed ++ [x]) t n with
    | some l => some l
    | none => pickM ok fixed t (n + 1)
termination_by _ free n => free.length + n
theorem pickM_short {ok : List Int → Bool} : ∀ (free : List Int) (n : Nat) (fixed : List Int), free.length < n → pickM ok fixed free n = none
  | [], 0, fixed, h => absurd h (by simp)
  | [], n + 1, fixed, h => by rw [pickM]
  | x :: t, 0, fixed, h => absurd h (by simp)
  | x :: t, n + 1, fixed, h => by
    simp at h
    rw [pickM, pickM_short t n _ h]
    simp only
    by_cases h2 : t.length < n + 1
    · exact pickM_short t (n + 1) fixed h2
    · omega
theorem pickM_some {ok : List Int → Bool} : ∀ (free : List Int) (n : Nat) (fixed l : List Int), pickM ok fixed free n = some l → ∃ s, s.Sublist free ∧ s.length = n ∧ l = fixed ++ s ∧ ok l = true
  | free, 0, fixed, l, h => by
    rw [pickM] at h
    split at h
    · rename_i hok
      cases h
      exact ⟨[], List.nil_sublist _, rfl, by simp, hok⟩
    · cases h
  | [], n + 1, fixed, l, h => by rw [pickM] at h; cases h
  | x :: t, n + 1, fixed, l, h => by
    rw [pickM] at h
    split at h
    · rename_i l' hl
      cases h
      obtain ⟨s, h1, h2, h3, h4⟩ := pickM_some t n _ _ hl
      exact ⟨x :: s, h1.cons_cons x, by simp [h2], by rw [h3]; simp, h4⟩
    · obtain ⟨s, h1, h2, h3, h4⟩ := pickM_some t (n + 1) _ _ h
      exact ⟨s, h1.cons x, h2, h3, h4⟩
theorem pickM_any {ok : List Int → Bool} : ∀ (free : List Int) (n : Nat) (fixed s : List Int), s.Sublist free → s.length = n → ok (fixed ++ s) = true → pickM ok fixed free n ≠ none
  | free, 0, fixed, s, h1, h2, h3 => by
    rw [List.eq_nil_of_length_eq_zero h2, List.append_nil] at h3
    rw [pickM, if_pos h3]
    simp
  | [], n + 1, fixed, s, h1, h2, h3 => by
    rw [List.sublist_nil.1 h1] at h2
    cases h2
  | x :: t, n + 1, fixed, s, h1, h2, h3 => by
    rw [pickM]
    split
    · simp
    · rename_i hn
      cases h1 with
      | cons _ h1 => exact pickM_any t (n + 1) fixed s h1 h2 h3
      | cons_cons _ h1 =>
        rename_i r
        exact absurd hn (pickM_any t n (fixed ++ [x]) r h1 (by simpa using h2) (by simpa using h3))
/-- with more and more entries -/
def pickN (f : Nat → Option (List Int)) : Nat → Nat → Option (List Int)
  | _, 0 => none
  | n, k + 1 => match f n with
    | some l => some l
    | none => pickN f (n + 1) k
theorem pickN_some {f : Nat → Option (List Int)} : ∀ (k n : Nat) (l : List Int), pickN f n k = some l → ∃ m, n ≤ m ∧ m < n + k ∧ f m = some l ∧ ∀ j, n ≤ j → j < m → f j = none
  | 0, n, l, h => by cases h
  | k + 1, n, l, h => by
    rw [pickN] at h
    split at h
    · rename_i l' hl
      cases h
      exact ⟨n, by omega, by omega, hl, fun j h1 h2 => by omega⟩
    · rename_i hn
      obtain ⟨m, h1, h2, h3, h4⟩ := pickN_some k (n + 1) l h
      refine ⟨m, by omega, by omega, h3, fun j h5 h6 => ?_⟩
      by_cases hj : j = n
      · rw [hj]; exact hn
      · exact h4 j (by omega) h6
/-- from a place the end is reached, by any words -/
inductive Toe (g : List (List Lnk)) : Nat → Prop
  | fin : Toe g g.length
  | step {i : Nat} {es : List Lnk} {x : Lnk} : g[i]? = some es → x ∈ es → Toe g x.to.toNat → Toe g i
/-- a word of the entry is in a reading -/
def Used (C : Cor) (e : Int) : Prop := ∃ g ∈ C, ∃ (i : Nat) (es : List Lnk) (x : Lnk), g[i]? = some es ∧ x ∈ es ∧ x.entry = e ∧ Rch g everyW i ∧ Toe g x.to.toNat
theorem rch_used {g : List (List Lnk)} {w w' : Int → Bool} {j : Nat} (hr : Rch g w j) (ht : Toe g j)
    (h : ∀ (i : Nat) es x, g[i]? = some es → x ∈ es → Rch g everyW i → Toe g x.to.toNat → w x.entry = true → w' x.entry = true) : Rch g w' j := by
  induction hr with
  | zero => exact .zero
  | step h1 h2 h3 h4 ih =>
    refine .step (ih (.step h2 h3 ht)) h2 h3 (h _ _ _ h2 h3 ?_ ht h4)
    exact h1.mono fun i es x a b c => ⟨es, a, x, b, rfl, rfl⟩
theorem allB_used {N : Nat} {C : Cor} (hc : COK N C) {w w' : Int → Bool} (h : ∀ e, Used C e → w e = true → w' e = true) (ha : allB C w = true) : allB C w' = true := by
  unfold allB at ha ⊢
  rw [List.all_eq_true] at ha ⊢
  intro g hg
  have hl := hc.links g hg
  refine (rdM_iff hl).2 (rch_used ((rdM_iff hl).1 (ha g hg)) .fin fun i es x h1 h2 h3 h4 h5 => h x.entry ⟨g, hg, i, es, x, h1, h2, rfl, h3, h4⟩ h5)
/-- all lines are readable with a choice only if it has those that are always there; and with these and those of the choice that are open -/
theorem choice_open {N : Nat} {C : Cor} (hc : COK N C) {keep fixed free : List Int} (hf : ∀ e, e ∈ fixed ↔ 0 ≤ e ∧ e < N ∧ allB C (but everyW e) = false)
    (ho : ∀ e, e ∈ free ↔ 0 ≤ e ∧ e < N ∧ allB C (but everyW e) = true ∧ Used C e) (hk : ∀ e ∈ keep, 0 ≤ e ∧ e < N) (ha : allB C (memW keep) = true) :
    (∀ e ∈ fixed, e ∈ keep) ∧ allB C (memW (fixed ++ free.filter (memW keep))) = true := by
  have h1 : ∀ e ∈ fixed, e ∈ keep := by
    intro e he
    by_cases hm : e ∈ keep
    · exact hm
    · have := allB_mono hc (w' := but everyW e) (fun x hx => by
        unfold memW at hx
        rw [decide_eq_true_eq] at hx
        unfold but everyW
        rw [Bool.and_true, Bool.not_eq_true', decide_eq_false_iff_not]
        intro h; exact hm (h ▸ hx)) ha
      rw [((hf e).1 he).2.2] at this
      cases this
  refine ⟨h1, allB_used hc (fun e hu hw => ?_) ha⟩
  unfold memW at hw ⊢
  rw [decide_eq_true_eq] at hw ⊢
  rw [List.mem_append, List.mem_filter]
  have hr := hk e hw
  cases hb : allB C (but everyW e) with
  | false => exact .inl ((hf e).2 ⟨hr.1, hr.2, hb⟩)
  | true => exact .inr ⟨(ho e).2 ⟨hr.1, hr.2, hb, hu⟩, by simpa using hw⟩
theorem nodup_sub_len {α : Type} [DecidableEq α] : ∀ {a b : List α}, a.Nodup → (∀ x ∈ a, x ∈ b) → a.length ≤ b.length
  | [], b, _, _ => Nat.zero_le _
  | x :: a, b, hn, h => by
    rw [List.nodup_cons] at hn
    have hx := h x (List.mem_cons_self ..)
    have := nodup_sub_len (a := a) (b := b.erase x) hn.2 fun y hy => by
      have hyx : y ≠ x := fun e => hn.1 (e ▸ hy)
      exact (List.mem_erase_of_ne hyx).2 (h y (List.mem_cons_of_mem _ hy))
    rw [List.length_erase_of_mem hx] at this
    have : 0 < b.length := List.length_pos_of_mem hx
    simp
    omega
/-- no choice with which all lines are readable has fewer entries -/
theorem pick_fewest {N : Nat} {C : Cor} (hc : COK N C) {keep fixed free few : List Int} (hf : ∀ e, e ∈ fixed ↔ 0 ≤ e ∧ e < N ∧ allB C (but everyW e) = false)
    (ho : ∀ e, e ∈ free ↔ 0 ≤ e ∧ e < N ∧ allB C (but everyW e) = true ∧ Used C e) (hfn : fixed.Nodup) (hon : free.Nodup) (hkn : keep.Nodup) (hk : ∀ e ∈ keep, 0 ≤ e ∧ e < N)
    (ha : allB C (memW keep) = true) (hp : pickN (pickM (fun l => allB C (memW l)) fixed free) 0 (free.length + 1) = some few) : few.length ≤ keep.length := by
  obtain ⟨m, _, h1, h2, h3⟩ := pickN_some _ _ _ hp
  obtain ⟨s, h4, h5, rfl, h6⟩ := pickM_some _ _ _ _ h2
  obtain ⟨h7, h8⟩ := choice_open hc hf ho hk ha
  have hq := pickM_any (ok := fun l => allB C (memW l)) free (free.filter (memW keep)).length fixed _ List.filter_sublist rfl h8
  have hle : m ≤ (free.filter (memW keep)).length := by
    by_cases h : m ≤ (free.filter (memW keep)).length
    · exact h
    · exact absurd (h3 _ (by omega) (by omega)) hq
  have hnd : (fixed ++ free.filter (memW keep)).Nodup := by
    refine List.nodup_append.2 ⟨hfn, hon.filter _, ?_⟩
    intro a ha1 b hb1 e
    subst e
    have h9 := ((hf a).1 ha1).2.2
    have h10 := ((ho a).1 (List.mem_filter.1 hb1).1).2.2.1
    rw [h9] at h10
    cases h10
  have hsub : ∀ x ∈ fixed ++ free.filter (memW keep), x ∈ keep := by
    intro x hx
    rcases List.mem_append.1 hx with h | h
    · exact h7 x h
    · have := (List.mem_filter.1 h).2
      unfold memW at this
      simpa using this
  have := nodup_sub_len hnd hsub
  rw [List.length_append] at this ⊢
  omega
end Go.Abs.Wall
set_option maxRecDepth 100000
set_option maxHeartbeats 2000000
set_option linter.unusedVariables false
set_option linter.unusedSimpArgs false
namespace Go.Abs.Wall
open Go Go.Abs Go.Proofs
/-! ### words that are in a reading (no program in sight) -/
/-- from which places the end is reached -/
def toT : List (List Lnk) → Nat → List Bool
  | [], _ => [true]
  | es :: t, i => (es.any fun x => (toT t (i + 1)).getD (x.to.toNat - (i + 1)) false) :: toT t (i + 1)
def toV (g : List (List Lnk)) (i : Nat) : Bool := (toT g 0).getD i false
theorem toT_drop {g : List (List Lnk)} : ∀ (i j : Nat) (g : List (List Lnk)) (b : Nat), i ≤ g.length → (toT g b).getD (i + j) false = (toT (g.drop i) (b + i)).getD j false
  | 0, j, g, b, _ => by rw [Nat.zero_add, List.drop_zero, Nat.add_zero]
  | i + 1, j, [], b, h => absurd h (by simp)
  | i + 1, j, es :: t, b, h => by
    have ih := toT_drop (g := g) i j t (b + 1) (by simpa using h)
    rw [toT, show i + 1 + j = (i + j) + 1 by omega, List.getD_cons_succ, ih, List.drop_succ_cons, show b + 1 + i = b + (i + 1) by omega]
theorem toV_end (g : List (List Lnk)) : toV g g.length = true := by
  have := toT_drop (g := g) g.length 0 g 0 (Nat.le_refl _)
  rw [Nat.add_zero, drop_nil (Nat.le_refl _)] at this
  exact this
theorem toV_cons {g : List (List Lnk)} (hg : LOK g) {i : Nat} {es : List Lnk} (h : g[i]? = some es) : toV g i = es.any fun x => toV g x.to.toNat := by
  have hi := (List.getElem?_eq_some_iff.1 h).1
  have h1 := toT_drop (g := g) i 0 g 0 (by omega)
  rw [Nat.add_zero, drop_cons h, toT, List.getD_cons_zero] at h1
  unfold toV
  rw [h1, Bool.eq_iff_iff, List.any_eq_true, List.any_eq_true]
  have hx : ∀ x ∈ es, (toT (g.drop (i + 1)) (0 + i + 1)).getD (x.to.toNat - (0 + i + 1)) false = (toT g 0).getD x.to.toNat false := by
    intro x hx
    have := hg i es h x hx
    have h2 := toT_drop (g := g) (i + 1) (x.to.toNat - (i + 1)) g 0 (by omega)
    rw [show i + 1 + (x.to.toNat - (i + 1)) = x.to.toNat by omega] at h2
    rw [h2, show 0 + i + 1 = 0 + (i + 1) by omega]
    congr 1
    omega
  constructor
  · rintro ⟨x, hm, hv⟩
    exact ⟨x, hm, by rw [← hx x hm]; exact hv⟩
  · rintro ⟨x, hm, hv⟩
    exact ⟨x, hm, by rw [hx x hm]; exact hv⟩
theorem toV_iff {g : List (List Lnk)} (hg : LOK g) : ∀ (d i : Nat), i + d = g.length → (toV g i = true ↔ Toe g i) := by
  intro d
  induction d using Nat.strongRecOn with
  | _ d ih =>
    intro i hi
    by_cases he : d = 0
    · have : i = g.length := by omega
      subst this
      exact ⟨fun _ => .fin, fun _ => toV_end g⟩
    · obtain ⟨es, hes⟩ := get_lt (l := g) (i := i) (by omega)
      rw [toV_cons hg hes, List.any_eq_true]
      constructor
      · rintro ⟨x, hx, hv⟩
        have := hg i es hes x hx
        exact .step hes hx ((ih (g.length - x.to.toNat) (by omega) x.to.toNat (by omega)).1 hv)
      · intro ht
        cases ht with
        | fin => omega
        | step h1 h2 h3 =>
          rename_i esA x
          rw [hes] at h1
          cases h1
          have := hg i es hes x h2
          exact ⟨x, h2, (ih (g.length - x.to.toNat) (by omega) x.to.toNat (by omega)).2 h3⟩
/-- what is reached, place for place -/
def fromV (g : List (List Lnk)) (i : Nat) : Bool := (rdL everyW g).getD i false
theorem fromV_iff {g : List (List Lnk)} (hg : LOK g) {i : Nat} : fromV g i = true ↔ Rch g everyW i := by
  have h0 : ((List.replicate (g.length + 1) false).set 0 true).getD 0 false = true := by rw [gdSet]; simp
  constructor
  · intro h
    refine rdGo_sound g.length 0 _ (by omega) ?_ _ h
    intro j hj
    rw [gdSet, Bool.or_eq_true, decide_eq_true_eq] at hj
    rcases hj with ⟨rfl, _⟩ | hj
    · exact .zero
    · rw [List.getD_eq_getElem?_getD, List.getElem?_replicate] at hj
      split at hj <;> cases hj
  · intro h
    exact rdGo_full hg g.length 0 _ (by omega) (by simp) h0 (fun i' es x hi' => absurd hi' (by omega)) _ h
def usedG (e : Int) (g : List (List Lnk)) : Bool := (List.range g.length).any fun i => fromV g i && (g.getD i []).any fun x => toV g x.to.toNat && decide (x.entry = e)
def usedB (C : Cor) (e : Int) : Bool := C.any (usedG e)
theorem usedG_iff {g : List (List Lnk)} (hg : LOK g) {e : Int} : usedG e g = true ↔ ∃ (i : Nat) (es : List Lnk) (x : Lnk), g[i]? = some es ∧ x ∈ es ∧ x.entry = e ∧ Rch g everyW i ∧ Toe g x.to.toNat := by
  unfold usedG
  rw [List.any_eq_true]
  constructor
  · rintro ⟨i, hi, h⟩
    rw [List.mem_range] at hi
    obtain ⟨es, hes⟩ := get_lt hi
    rw [Bool.and_eq_true, getD_of hes, List.any_eq_true] at h
    obtain ⟨h1, x, hx, h2⟩ := h
    rw [Bool.and_eq_true, decide_eq_true_eq] at h2
    have := hg i es hes x hx
    exact ⟨i, es, x, hes, hx, h2.2, (fromV_iff hg).1 h1, (toV_iff hg (g.length - x.to.toNat) _ (by omega)).1 h2.1⟩
  · rintro ⟨i, es, x, hes, hx, he, h1, h2⟩
    have := hg i es hes x hx
    refine ⟨i, List.mem_range.2 (List.getElem?_eq_some_iff.1 hes).1, ?_⟩
    rw [Bool.and_eq_true, getD_of hes, List.any_eq_true]
    exact ⟨(fromV_iff hg).2 h1, x, hx, by rw [Bool.and_eq_true, decide_eq_true_eq]; exact ⟨(toV_iff hg (g.length - x.to.toNat) _ (by omega)).2 h2, he⟩⟩
theorem usedB_iff {N : Nat} {C : Cor} (hc : COK N C) {e : Int} : usedB C e = true ↔ Used C e := by
  unfold usedB
  rw [List.any_eq_true]
  constructor
  · rintro ⟨g, hg, h⟩
    exact ⟨g, hg, (usedG_iff (hc.links g hg)).1 h⟩
  · rintro ⟨g, hg, h⟩
    exact ⟨g, hg, (usedG_iff (hc.links g hg)).2 h⟩
theorem Toe.mono {g g' : List (List Lnk)} (hl : g.length = g'.length) (h : ∀ (i : Nat) es x, g[i]? = some es → x ∈ es → ∃ es', g'[i]? = some es' ∧ ∃ y ∈ es', y.to = x.to) {j : Nat} (hr : Toe g j) : Toe g' j := by
  induction hr with
  | fin => rw [hl]; exact .fin
  | step h1 h2 h3 ih =>
    obtain ⟨es', e1, y, e2, e3⟩ := h _ _ _ h1 h2
    rw [← e3] at ih
    exact .step e1 e2 ih
theorem usedG_cpt {g : List (List Lnk)} (hg : LOK g) {e : Int} : usedG e (g.map cpt) = usedG e g := by
  have hm1 : ∀ (i : Nat) es x, (g.map cpt)[i]? = some es → x ∈ es → ∃ fs, g[i]? = some fs ∧ x ∈ fs := by
    intro i es x h1 h2
    rw [List.getElem?_map] at h1
    obtain ⟨fs, hf, rfl⟩ := Option.map_eq_some_iff.1 h1
    exact ⟨fs, hf, cpt_mem.1 h2⟩
  have hm2 : ∀ (i : Nat) es x, g[i]? = some es → x ∈ es → ∃ fs, (g.map cpt)[i]? = some fs ∧ x ∈ fs := by
    intro i es x h1 h2
    exact ⟨_, by rw [List.getElem?_map, h1]; rfl, cpt_mem.2 h2⟩
  rw [Bool.eq_iff_iff, usedG_iff hg.cpt, usedG_iff hg]
  constructor
  · rintro ⟨i, es, x, h1, h2, h3, h4, h5⟩
    obtain ⟨fs, f1, f2⟩ := hm1 i es x h1 h2
    exact ⟨i, fs, x, f1, f2, h3, h4.mono fun i es x a b c => by obtain ⟨fs, a1, a2⟩ := hm1 i es x a b; exact ⟨fs, a1, x, a2, rfl, rfl⟩,
      h5.mono (by simp) fun i es x a b => by obtain ⟨fs, a1, a2⟩ := hm1 i es x a b; exact ⟨fs, a1, x, a2, rfl⟩⟩
  · rintro ⟨i, es, x, h1, h2, h3, h4, h5⟩
    obtain ⟨fs, f1, f2⟩ := hm2 i es x h1 h2
    exact ⟨i, fs, x, f1, f2, h3, h4.mono fun i es x a b c => by obtain ⟨fs, a1, a2⟩ := hm2 i es x a b; exact ⟨fs, a1, x, a2, rfl, rfl⟩,
      h5.mono (by simp) fun i es x a b => by obtain ⟨fs, a1, a2⟩ := hm2 i es x a b; exact ⟨fs, a1, x, a2, rfl⟩⟩
end Go.Abs.Wall
set_option maxRecDepth 100000
set_option maxHeartbeats 2000000
set_option linter.unusedVariables false
set_option linter.unusedSimpArgs false
namespace Go.Abs.Wall.Lst
open Go Go.Abs Go.Proofs Go.Abs.Wall
/-! ### the house with some of its entries alone (no program in sight) -/
/-- a choice: entries that there are, in order -/
structure KeepOK (H : Hou) (keep : List Int) : Prop where
  up : keep.Pairwise (· < ·)
  inr : ∀ k ∈ keep, 0 ≤ k ∧ k < H.lex.entries.length
end Go.Abs.Wall.Lst

