/- What is proved: small laws for the walks of this seat, and contracts of its functions. No condition but those each theorem names. -/
import Derived.Test.YtoncocddopjjcaaGreatN7
import Derived.Test.YtoncocddopjjcaaGreatN5
import Derived.Test.YtoncocddopjjcaaGreatN4
import Derived.Test.YtoncocddopjjcaaGreatN6
set_option maxRecDepth 100000
set_option linter.unusedVariables false
set_option linter.unusedSimpArgs false
namespace Go.Abs.Wall
open Go Go.Abs Go.Proofs
/-! ### rows of several cells -/
section
variable {α : Type} {k : Nat} {enc : α → List AV}
theorem flat_len (hk : ∀ a, (enc a).length = k) (L : List α) : ((L.map enc).flatten).length = L.length * k := enc_len hk
theorem flat_drop (hk : ∀ a, (enc a).length = k) : ∀ (L : List α) (i : Nat), ((L.map enc).flatten).drop (i * k) = ((L.drop i).map enc).flatten
  | L, 0 => by simp
  | [], i + 1 => by simp
  | a :: L, i + 1 => by
    rw [List.map_cons, List.flatten_cons, List.drop_succ_cons, show (i + 1) * k = (enc a).length + i * k by rw [hk, Nat.succ_mul, Nat.add_comm], List.drop_append, List.drop_eq_nil_of_le (Nat.le_add_right _ _), List.nil_append, Nat.add_sub_cancel_left]
    exact flat_drop hk L i
theorem flat_take (hk : ∀ a, (enc a).length = k) : ∀ (L : List α) (i : Nat), ((L.map enc).flatten).take (i * k) = ((L.take i).map enc).flatten
  | L, 0 => by simp
  | [], i + 1 => by simp
  | a :: L, i + 1 => by
    rw [List.map_cons, List.flatten_cons, List.take_succ_cons, List.map_cons, List.flatten_cons, show (i + 1) * k = (enc a).length + i * k by rw [hk, Nat.succ_mul, Nat.add_comm], List.take_append, List.take_of_length_le (Nat.le_add_right _ _), Nat.add_sub_cancel_left]
    rw [flat_take hk L i]
end
/-! ### one by one into an ordered list -/
end Go.Abs.Wall
set_option maxRecDepth 100000
set_option linter.unusedVariables false
set_option linter.unusedSimpArgs false
namespace Go.Abs.Wall
open Go Go.Abs Go.Proofs
/-! ### lexicons, the specification's -/
theorem Below.none {α : Type} {p : α → Bool} {l : List α} {i : Nat} (h : Below p l i) : (l.take i).any p = false := by
  rw [List.any_eq_false]
  intro y hy
  obtain ⟨j, hj⟩ := List.mem_iff_getElem?.1 hy
  rw [List.getElem?_take] at hj
  split at hj
  · rename_i h1
    rw [h j y h1 hj]; decide
  · cases hj
end Go.Abs.Wall
set_option maxRecDepth 100000
set_option linter.unusedVariables false
set_option linter.unusedSimpArgs false
namespace Go.Abs.Wall
open Go Go.Abs Go.Proofs
/-! ### forms, the specification's -/
end Go.Abs.Wall
set_option maxRecDepth 100000
set_option linter.unusedVariables false
set_option linter.unusedSimpArgs false
namespace Go.Abs.Wall
open Go Go.Abs Go.Proofs
/-! ### houses and uses, the specification's -/
def c154 : Cfg := ⟨[0, 1, 2, 3, 4, 9], [], [], [], [], []⟩
def lessU (a b : Use) : Bool := decide (useCmp a b < 0)
theorem refLessU (a b : Use) : QCall Tryz.prog 154 [.agg (encUse a), .agg (encUse b)] [] (.bool (lessU a b)) := by
  refine fcalls (F := Tryz.f154) c154 rfl rfl rfl mixed rfl fun X => ?_
  conv => whnf
  skip
  have hu : useCmp a b = if cmpI a.kind b.kind ≠ 0 then cmpI a.kind b.kind else cmpS a.text b.text := by unfold useCmp; rw [orI2]
  refine ⟨fun hq => ?_, fun hq => ?_⟩ <;> simp at hq
  · conv => whnf
    skip
    refine ⟨congrArg AV.bool ?_, rfl⟩
    unfold lessU
    rw [hu, if_pos (by rw [ne_eq, cmpI_zero]; exact hq), decide_eq_decide, cmpI_lt]
  · conv => whnf
    skip
    refine ⟨congrArg AV.bool ?_, rfl⟩
    unfold lessU
    rw [hu, if_neg (by rw [ne_eq, cmpI_zero]; simpa using hq), bytesLess_eq, decide_eq_decide, cmpS_lt]
/-! one use into the list -/
def inUse (p : Int) (v : Val) : Bool := wthn p v.fr v.to
end Go.Abs.Wall
set_option maxRecDepth 100000
set_option linter.unusedVariables false
set_option linter.unusedSimpArgs false
namespace Go.Abs.Wall
open Go Go.Abs Go.Proofs
theorem useOf_kind (v : Val) : (v.kind = 1 ∧ useOf v = [⟨1, v.text⟩, ⟨3, v.text⟩]) ∨ (v.kind = 2 ∧ useOf v = [⟨2, v.text⟩]) ∨ (v.kind = 3 ∧ useOf v = [⟨4, v.text⟩]) ∨ (v.kind ≠ 1 ∧ v.kind ≠ 2 ∧ v.kind ≠ 3 ∧ useOf v = []) := by
  unfold useOf
  by_cases h1 : v.kind = 1
  · exact .inl ⟨h1, by rw [if_pos h1]⟩
  by_cases h2 : v.kind = 2
  · exact .inr (.inl ⟨h2, by rw [if_neg h1, if_pos h2]⟩)
  by_cases h3 : v.kind = 3
  · exact .inr (.inr (.inl ⟨h3, by rw [if_neg h1, if_neg h2, if_pos h3]⟩))
  · exact .inr (.inr (.inr ⟨h1, h2, h3, by rw [if_neg h1, if_neg h2, if_neg h3]⟩))
/-! ### both lists of uses are the same -/
theorem useOf_key {u : Use} {v : Val} (h : u ∈ useOf v) : v.text = u.text ∧ v.kind = (if u.kind = 2 then 2 else if u.kind = 4 then 3 else 1) := by
  rcases useOf_kind v with ⟨hk, e⟩ | ⟨hk, e⟩ | ⟨hk, e⟩ | ⟨_, _, _, e⟩ <;> rw [e] at h <;> simp at h
  · rcases h with rfl | rfl <;> simp [hk]
  · subst h; simp [hk]
  · subst h; simp [hk]
theorem useOf_nodup (v : Val) : (useOf v).Nodup := by
  rcases useOf_kind v with ⟨hk, e⟩ | ⟨hk, e⟩ | ⟨hk, e⟩ | ⟨_, _, _, e⟩ <;> rw [e] <;> simp
theorem useOf_fresh {p : Int} {v w : Val} (hm : meetB v w = false) (hv : inUse p v = true) (hw : inUse p w = true) : ∀ u ∈ useOf v, u ∉ useOf w := by
  have hov : ¬ (v.kind = w.kind ∧ v.text = w.text) := by
    rintro ⟨h1, h2⟩
    unfold inUse at hv hw
    rw [wthn_iff] at hv hw
    unfold meetB at hm
    rw [decide_eq_true h1, decide_eq_true h2, decide_eq_true (show v.fr ≤ w.to by omega), decide_eq_true (show w.fr ≤ v.to by omega)] at hm
    cases hm
  intro u hu hu2
  have h1 := useOf_key hu
  have h2 := useOf_key hu2
  exact hov ⟨h1.2.trans h2.2.symm, h1.1.trans h2.1.symm⟩
/-- values that say nothing twice in a period -/
def Apart (p : Int) : List Val → Prop
  | [] => True
  | v :: t => (∀ w ∈ t, inUse p v = true → inUse p w = true → meetB w v = false) ∧ Apart p t
theorem valErr_apart {l : Lst} {b : List Val} {v : Val} (h : valErr l b v = 0) : ∀ w ∈ b, meetB v w = false := by
  unfold valErr at h
  split at h
  · cases h
  split at h
  · cases h
  split at h
  · cases h
  · rename_i h3
    rw [Bool.not_eq_true, List.any_eq_false] at h3
    exact fun w hw => by simpa using h3 w hw
theorem valsErr_get {l : Lst} {vs : List Val} : ∀ {t : List Val} {i : Nat}, vs.drop i = t → valsErr l vs t i = 0 → ∀ j v, i ≤ j → vs[j]? = some v → valErr l (vs.take j) v = 0
  | [], i, hd, h, j, v, hj, hv => by
    have := (List.getElem?_eq_some_iff.1 hv).1
    have hl := congrArg List.length hd
    rw [List.length_drop, List.length_nil] at hl
    omega
  | a :: t, i, hd, h, j, v, hj, hv => by
    unfold valsErr at h
    split at h
    · rename_i h1; exact absurd h h1
    · rename_i h1
      by_cases hij : j = i
      · subst hij
        have : vs[j]? = some a := by
          have := congrArg (fun z => z[0]?) hd
          simpa using this
        rw [hv] at this
        cases this
        exact by simpa using h1
      · exact valsErr_get (t := t) (i := i + 1) (by have := congrArg List.tail hd; simpa [List.tail_drop] using this) h j v (by omega) hv
theorem apart_of {p : Int} : ∀ {vs : List Val}, (∀ (j k : Nat) v w, j < k → vs[j]? = some v → vs[k]? = some w → meetB w v = false) → Apart p vs
  | [], _ => trivial
  | a :: t, h => ⟨fun w hw _ _ => by
      obtain ⟨k, hk⟩ := List.mem_iff_getElem?.1 hw
      exact h 0 (k + 1) a w (by omega) rfl (by simpa using hk), apart_of fun j k v w hj hv hw => h (j + 1) (k + 1) v w (by omega) (by simpa using hv) (by simpa using hw)⟩
theorem sgn_apart {l : Lst} {s : Sgn} (h : sgnErr l s = 0) (p : Int) : Apart p s.values := by
  unfold sgnErr at h
  split at h
  · cases h
  split at h
  · cases h
  · refine apart_of fun j k v w hj hv hw => ?_
    have := valsErr_get (i := 0) rfl h k w (by omega) hw
    exact valErr_apart this v (List.mem_of_getElem? (i := j) (by rw [List.getElem?_take, if_pos hj, hv]))
theorem useGo_nodup {p : Int} : ∀ {vs : List Val}, Apart p vs → (useGo p vs).Nodup
  | [], _ => .nil
  | v :: t, h => by
    unfold useGo
    split
    · rename_i hw
      rw [List.nodup_append]
      refine ⟨useOf_nodup v, useGo_nodup h.2, fun u hu u' hu' e => ?_⟩
      subst e
      have hmem : ∀ {t : List Val}, u ∈ useGo p t → ∃ w ∈ t, inUse p w = true ∧ u ∈ useOf w := by
        intro t
        induction t with
        | nil => intro h; cases h
        | cons a t ih =>
          intro h
          unfold useGo at h
          rcases List.mem_append.1 h with h | h
          · split at h
            · rename_i h1; exact ⟨a, by simp, h1, h⟩
            · cases h
          · obtain ⟨w, h1, h2⟩ := ih h
            exact ⟨w, by simp [h1], h2⟩
      obtain ⟨w, h1, h2, h3⟩ := hmem hu'
      exact useOf_fresh (h.1 w h1 hw h2) h2 hw u h3 hu
    · rw [List.nil_append]; exact useGo_nodup h.2
theorem lst_sgn {l : Lst} (h : lstErr l = 0) : ∀ s ∈ l.signs, sgnErr l s = 0 := by
  unfold lstErr at h
  split at h
  · cases h
  split at h
  · cases h
  · have hgo : ∀ {t : List Sgn} {seen : List (List UInt8)}, lstGo l t seen = 0 → ∀ s ∈ t, sgnErr l s = 0 := by
      intro t
      induction t with
      | nil => intro seen _ s hs; cases hs
      | cons a t ih =>
        intro seen h s hs
        unfold lstGo at h
        split at h
        · cases h
        split at h
        · rename_i h1; exact absurd h h1
        · rename_i h1
          rcases List.mem_cons.1 hs with rfl | hs
          · simpa using h1
          · exact ih h s hs
    exact hgo h
end Go.Abs.Wall
set_option maxRecDepth 100000
set_option linter.unusedVariables false
set_option linter.unusedSimpArgs false
namespace Go.Abs.Wall
open Go Go.Abs Go.Proofs
def c22 : Cfg := ⟨[0, 1, 4, 5, 10, 14, 25], [], [], [], [(6, [0, 1, 2, 3, 4, 5, 6, 7, 8], [])], []⟩
def c3 : Cfg := ⟨[0, 1, 2, 4, 5, 6, 7, 8, 13], [], [], [], [(1, [0, 1, 2, 3, 4], [])], []⟩
theorem sameUses (a b : List Use) (ha : a.length ≤ LMAX) (hb : b.length ≤ LMAX) : QCall Tryz.prog 22 [.sl 2 none (a.map encUse), .sl 2 none (b.map encUse)] [] (.bool (decide (a = b))) := by
  unfold LMAX at ha hb
  refine fcalls (F := Tryz.f22) c22 rfl rfl rfl mixed rfl fun X => ?_
  conv => whnf
  skip
  refine ⟨fun hc => ?_, fun hc => ?_⟩ <;> simp at hc
  · conv => whnf
    refine ⟨congrArg AV.bool (decide_eq_false fun e => ?_).symm, rfl⟩
    rw [e] at hc
    omega
  conv => whnf
  skip
  refine sloop rfl mixed [0, 1, 5] [] (fun m r h => ∃ (i : Nat), r = [(0, [], .sl 2 none (a.map encUse)), (1, [], .sl 2 none (b.map encUse)), (5, [], .int .i64 i)] ∧ h = [] ∧ m = a.length - i ∧ i ≤ a.length ∧ decide (a = b) = decide (a.drop i = b.drop i)) ?_ ?_
  · conv => whnf
    exact ⟨_, 0, rfl, rfl, rfl, by omega, rfl⟩
  · rintro m r h ⟨i, rfl, rfl, rfl, hi, hg⟩
    conv => whnf
    skip
    refine ⟨fun hi2 => ?_, fun hi2 => ?_⟩ <;> simp at hi2
    · obtain ⟨x, hx⟩ := get_lt hi2
      obtain ⟨y, hy⟩ := get_lt (l := b) (i := i) (by omega)
      rw [drop_cons hx, drop_cons hy] at hg
      conv => whnf
      repeat ((first | refine ix (by assumption) ?_ | (refine ⟨plainUse, ?_⟩) | refine And.intro (by show drawOK (opsAt Tryz.f22 _) _ = true; decide +kernel) ?_); conv => whnf)
      refine ⟨fun hq => ?_, fun hq => ?_⟩
      · have hq : (!useEq x y) = true := hq
        rw [useEq_iff, Bool.not_eq_true', decide_eq_false_iff_not] at hq
        conv => whnf
        skip
        refine ⟨congrArg AV.bool ?_, rfl⟩
        rw [hg]
        symm
        rw [decide_eq_false_iff_not]
        intro h
        exact hq (List.cons.inj h).1
      · have hq : (!useEq x y) = false := hq
        rw [useEq_iff, Bool.not_eq_false', decide_eq_true_eq] at hq
        subst hq
        conv => whnf
        repeat (refine ⟨gP_of ⟨by omega, by omega⟩, ?_⟩; conv => whnf)
        refine ⟨_, by omega, i + 1, rfl, rfl, rfl, by omega, ?_⟩
        rw [hg, decide_eq_decide, List.cons.injEq]
        simp
    · rw [drop_nil hi2, drop_nil (by omega)] at hg
      conv => whnf
      skip
      exact ⟨congrArg AV.bool (by rw [hg]; rfl), rfl⟩
end Go.Abs.Wall
set_option maxRecDepth 100000
set_option linter.unusedVariables false
namespace Go.Abs.Wall
open Go Go.Abs Go.Proofs Go.Proofs.YtoncocddopjjcaaGreat.Br
/-! ### plain data -/
def ShParts (P : Program) (B : Nat) : List TypeId → List (List AV) → Prop
  | [], [] => True
  | t :: ts, p :: ps => Sh P B t p ∧ ShParts P B ts ps
  | _, _ => False
theorem sh_parts {P : Program} {B : Nat} : ∀ {ts : List TypeId} {ps : List (List AV)}, ps.length = ts.length → (∀ (i : Nat) t p, ts[i]? = some t → ps[i]? = some p → Sh P B t p) → ShParts P B ts ps
  | [], [], _, _ => trivial
  | t :: ts, p :: ps, hl, h => ⟨h 0 t p rfl rfl, sh_parts (by simpa using hl) fun i t' p' h1 h2 => h (i + 1) t' p' (by simpa using h1) (by simpa using h2)⟩
  | [], _ :: _, hl, _ => by simp at hl
  | _ :: _, [], hl, _ => by simp at hl
theorem sh_struct {P : Program} {B : Nat} {t : TypeId} {fs : Array Field} {xs : List AV} (h : Sh P B t xs) (hu : P.underlying t = some (.struct fs)) : ∃ ps, xs = ps.flatten ∧ ShParts P B (fs.toList.map (·.type)) ps := by
  cases h with
  | bool h1 => rw [hu] at h1; cases h1
  | int h1 _ => rw [hu] at h1; cases h1
  | str h1 _ => rw [hu] at h1; cases h1
  | slice h1 _ _ => rw [hu] at h1; cases h1
  | @struct _ fs' ps h1 hl hp =>
    rw [hu] at h1; cases h1
    refine ⟨ps, rfl, sh_parts (by simpa using hl) fun i t p h1 h2 => ?_⟩
    rw [List.getElem?_map] at h1
    cases hf : fs.toList[i]? with
    | none => rw [hf] at h1; cases h1
    | some f => rw [hf] at h1; cases h1; exact hp i f p hf h2
  | array h1 hl hp => rw [hu] at h1; cases h1
theorem sh_int {P : Program} {B : Nat} {t : TypeId} {k : IntKind} {xs : List AV} (h : Sh P B t xs) (hu : P.underlying t = some (.int k)) : ∃ n : Int, xs = [.int k n] ∧ k.has n := by
  cases h with
  | bool h1 => rw [hu] at h1; cases h1
  | int h1 h2 => rw [hu] at h1; cases h1; exact ⟨_, rfl, wf_has h2⟩
  | str h1 _ => rw [hu] at h1; cases h1
  | slice h1 _ _ => rw [hu] at h1; cases h1
  | struct h1 hl hp => rw [hu] at h1; cases h1
  | array h1 hl hp => rw [hu] at h1; cases h1
theorem sh_bool {P : Program} {B : Nat} {t : TypeId} {xs : List AV} (h : Sh P B t xs) (hu : P.underlying t = some .bool) : ∃ b : Bool, xs = [.bool b] := by
  cases h with
  | bool h1 => exact ⟨_, rfl⟩
  | int h1 h2 => rw [hu] at h1; cases h1
  | str h1 _ => rw [hu] at h1; cases h1
  | slice h1 _ _ => rw [hu] at h1; cases h1
  | struct h1 hl hp => rw [hu] at h1; cases h1
  | array h1 hl hp => rw [hu] at h1; cases h1
theorem sh_str {P : Program} {B : Nat} {t : TypeId} {xs : List AV} (h : Sh P B t xs) (hu : P.underlying t = some .string) : ∃ s, xs = [.str s] ∧ s.length ≤ B := by
  cases h with
  | bool h1 => rw [hu] at h1; cases h1
  | int h1 h2 => rw [hu] at h1; cases h1
  | str h1 h2 => exact ⟨_, rfl, h2⟩
  | slice h1 _ _ => rw [hu] at h1; cases h1
  | struct h1 hl hp => rw [hu] at h1; cases h1
  | array h1 hl hp => rw [hu] at h1; cases h1
theorem sh_list {P : Program} {B : Nat} {t e : TypeId} {xs : List AV} {α : Type} {enc : α → List AV} {Fit : α → Prop} (h : Sh P B t xs) (hu : P.underlying t = some (.slice e)) (he : ∀ y, Sh P B e y → ∃ a, y = enc a ∧ Fit a) :
    ∃ l : List α, xs = [.sl (P.cellsOf e) none (l.map enc)] ∧ l.length ≤ B ∧ ∀ a ∈ l, Fit a := by
  cases h with
  | bool h1 => rw [hu] at h1; cases h1
  | int h1 h2 => rw [hu] at h1; cases h1
  | str h1 _ => rw [hu] at h1; cases h1
  | @slice _ e' ys h1 h2 h3 =>
    rw [hu] at h1; cases h1
    suffices hk : ∃ l : List α, ys = l.map enc ∧ ∀ a ∈ l, Fit a by
      obtain ⟨l, rfl, hf⟩ := hk
      exact ⟨l, rfl, by simpa using h2, hf⟩
    clear h2
    induction ys with
    | nil => exact ⟨[], rfl, by simp⟩
    | cons y ys ih =>
      obtain ⟨l, rfl, hf⟩ := ih fun z hz => h3 z (by simp [hz])
      obtain ⟨a, rfl, ha⟩ := he y (h3 y (by simp))
      exact ⟨a :: l, rfl, fun b hb => by rcases List.mem_cons.1 hb with rfl | hb; exact ha; exact hf b hb⟩
  | struct h1 hl hp => rw [hu] at h1; cases h1
  | array h1 hl hp => rw [hu] at h1; cases h1
theorem sh2 {P : Program} {B : Nat} {a b : TypeId} {ps : List (List AV)} (h : ShParts P B [a, b] ps) : ∃ x y, ps = [x, y] ∧ Sh P B a x ∧ Sh P B b y := by
  match ps, h with
  | [x, y], ⟨h1, h2, _⟩ => exact ⟨x, y, rfl, h1, h2⟩
theorem sh3 {P : Program} {B : Nat} {a b c : TypeId} {ps : List (List AV)} (h : ShParts P B [a, b, c] ps) : ∃ x y z, ps = [x, y, z] ∧ Sh P B a x ∧ Sh P B b y ∧ Sh P B c z := by
  match ps, h with
  | [x, y, z], ⟨h1, h2, h3, _⟩ => exact ⟨x, y, z, rfl, h1, h2, h3⟩
theorem sh4 {P : Program} {B : Nat} {a b c d : TypeId} {ps : List (List AV)} (h : ShParts P B [a, b, c, d] ps) : ∃ x y z u, ps = [x, y, z, u] ∧ Sh P B a x ∧ Sh P B b y ∧ Sh P B c z ∧ Sh P B d u := by
  match ps, h with
  | [x, y, z, u], ⟨h1, h2, h3, h4, _⟩ => exact ⟨x, y, z, u, rfl, h1, h2, h3, h4⟩
theorem sh5 {P : Program} {B : Nat} {a b c d e : TypeId} {ps : List (List AV)} (h : ShParts P B [a, b, c, d, e] ps) : ∃ x y z u v, ps = [x, y, z, u, v] ∧ Sh P B a x ∧ Sh P B b y ∧ Sh P B c z ∧ Sh P B d u ∧ Sh P B e v := by
  match ps, h with
  | [x, y, z, u, v], ⟨h1, h2, h3, h4, h5, _⟩ => exact ⟨x, y, z, u, v, rfl, h1, h2, h3, h4, h5⟩
abbrev B20 : Nat := 1048576
theorem b20 {n : Nat} (h : n ≤ B20) : n ≤ LMAX := by unfold LMAX; unfold B20 at h; omega
theorem shInt {xs : List AV} (h : Sh Tryz.prog B20 3 xs) : ∃ n : Int, xs = [.int .i64 n] ∧ IntKind.i64.has n := sh_int h rfl
theorem shInts {xs : List AV} (h : Sh Tryz.prog B20 42 xs) : ∃ l : List Int, xs = [.sl 1 none (ints l)] ∧ l.length ≤ B20 ∧ ∀ a ∈ l, IntKind.i64.has a :=
  sh_list (enc := fun x => [AV.int .i64 x]) h rfl fun y hy => shInt hy
theorem shVal {xs : List AV} (h : Sh Tryz.prog B20 154 xs) : ∃ v : Val, xs = encVal v ∧ v.text.length ≤ B20 := by
  obtain ⟨ps, rfl, hp⟩ := sh_struct h rfl
  obtain ⟨x, y, z, u, rfl, h1, h2, h3, h4⟩ := sh4 hp
  obtain ⟨a, rfl, _⟩ := shInt h1
  obtain ⟨b, rfl, hb⟩ := sh_str h2 rfl
  obtain ⟨c, rfl, _⟩ := shInt h3
  obtain ⟨d, rfl, _⟩ := shInt h4
  exact ⟨⟨a, b, c, d⟩, rfl, hb⟩
theorem shSgn {xs : List AV} (h : Sh Tryz.prog B20 94 xs) : ∃ s : Sgn, xs = encSgn s ∧ SgnFit s := by
  obtain ⟨ps, rfl, hp⟩ := sh_struct h rfl
  obtain ⟨x, y, z, u, v, rfl, h1, h2, h3, h4, h5⟩ := sh5 hp
  obtain ⟨a, rfl, ha⟩ := sh_str h1 rfl
  obtain ⟨b, rfl, hb⟩ := shInt h2
  obtain ⟨c, rfl, _⟩ := shInt h3
  obtain ⟨d, rfl⟩ := sh_bool h4 rfl
  obtain ⟨e, rfl, he, hf⟩ := sh_list (enc := encVal) h5 rfl fun y hy => shVal hy
  exact ⟨⟨a, b, c, d, e⟩, rfl, b20 ha, b20 he, fun v hv => b20 (hf v hv)⟩
theorem shLst {xs : List AV} (h : Sh Tryz.prog B20 24 xs) : ∃ l : Lst, xs = encLst l ∧ LstFit l := by
  obtain ⟨ps, rfl, hp⟩ := sh_struct h rfl
  obtain ⟨y, z, rfl, h1, h2⟩ := sh2 hp
  obtain ⟨a, rfl, _⟩ := shInt h1
  obtain ⟨b, rfl, hb, hf⟩ := sh_list (enc := encSgn) h2 rfl fun y hy => shSgn hy
  exact ⟨⟨a, b⟩, rfl, b20 hb, hf⟩
theorem shEnt {xs : List AV} (h : Sh Tryz.prog B20 146 xs) : ∃ e : Ent, xs = encEnt e ∧ EntFit e := by
  obtain ⟨ps, rfl, hp⟩ := sh_struct h rfl
  obtain ⟨x, y, z, u, rfl, h1, h2, h3, h4⟩ := sh4 hp
  obtain ⟨a, rfl, ha⟩ := sh_str h1 rfl
  obtain ⟨b, rfl, hb⟩ := shInt h2
  obtain ⟨c, rfl, hc⟩ := sh_str h3 rfl
  obtain ⟨d, rfl, _⟩ := shInt h4
  exact ⟨⟨a, b, c, d⟩, rfl, b20 ha, b20 hc⟩
theorem shEdn {xs : List AV} (h : Sh Tryz.prog B20 148 xs) : ∃ e : Edn, xs = encEdn e ∧ EdnFit e := by
  obtain ⟨ps, rfl, hp⟩ := sh_struct h rfl
  obtain ⟨x, y, z, u, rfl, h1, h2, h3, h4⟩ := sh4 hp
  obtain ⟨a, rfl, ha⟩ := shInt h1
  obtain ⟨b, rfl, hb⟩ := sh_str h2 rfl
  obtain ⟨c, rfl, hc⟩ := sh_str h3 rfl
  obtain ⟨d, rfl, _⟩ := shInt h4
  exact ⟨⟨a, b, c, d⟩, rfl, b20 hb, b20 hc⟩
theorem shCli {xs : List AV} (h : Sh Tryz.prog B20 150 xs) : ∃ e : Cli, xs = encCli e ∧ CliFit e := by
  obtain ⟨ps, rfl, hp⟩ := sh_struct h rfl
  obtain ⟨x, y, z, rfl, h1, h2, h3⟩ := sh3 hp
  obtain ⟨a, rfl, ha⟩ := sh_str h1 rfl
  obtain ⟨b, rfl, hb⟩ := sh_str h2 rfl
  obtain ⟨c, rfl, hc⟩ := shInt h3
  exact ⟨⟨a, b, c⟩, rfl, b20 ha, b20 hb⟩
theorem shLex {xs : List AV} (h : Sh Tryz.prog B20 29 xs) : ∃ l : Lex, xs = encLex l ∧ LexFit l := by
  obtain ⟨ps, rfl, hp⟩ := sh_struct h rfl
  obtain ⟨x, y, z, rfl, h1, h2, h3⟩ := sh3 hp
  obtain ⟨a, rfl, ha, fa⟩ := sh_list (enc := encEnt) h1 rfl fun y hy => shEnt hy
  obtain ⟨b, rfl, hb, fb⟩ := sh_list (enc := encEdn) h2 rfl fun y hy => shEdn hy
  obtain ⟨c, rfl, hc, fc⟩ := sh_list (enc := encCli) h3 rfl fun y hy => shCli hy
  exact ⟨⟨a, b, c⟩, rfl, b20 ha, b20 hb, b20 hc, fa, fb, fc⟩
theorem shCos {xs : List AV} (h : Sh Tryz.prog B20 31 xs) : ∃ c : Cos, xs = encCos c := by
  obtain ⟨ps, rfl, hp⟩ := sh_struct h rfl
  obtain ⟨x, y, z, u, v, rfl, h1, h2, h3, h4, h5⟩ := sh5 hp
  obtain ⟨a, rfl, ha⟩ := shInt h1
  obtain ⟨b, rfl, hb⟩ := shInt h2
  obtain ⟨c, rfl, hc⟩ := shInt h3
  obtain ⟨d, rfl, hd⟩ := shInt h4
  obtain ⟨e, rfl, he⟩ := shInt h5
  exact ⟨⟨a, b, c, d, e⟩, rfl⟩
theorem shHou {xs : List AV} (h : Sh Tryz.prog B20 33 xs) : ∃ H : Hou, xs = encHou H ∧ HouFit H := by
  obtain ⟨ps, rfl, hp⟩ := sh_struct h rfl
  obtain ⟨x, y, z, u, rfl, h1, h2, h3, h4⟩ := sh4 hp
  obtain ⟨a, rfl, ha⟩ := shLst h1
  obtain ⟨b, rfl, hb⟩ := shLex h2
  obtain ⟨c, rfl⟩ := shCos h3
  obtain ⟨d, rfl, hd⟩ := shInt h4
  exact ⟨⟨a, b, c, d⟩, rfl, ⟨ha, hb⟩⟩
theorem shUse {xs : List AV} (h : Sh Tryz.prog B20 108 xs) : ∃ u : Use, xs = encUse u ∧ u.text.length ≤ B20 := by
  obtain ⟨ps, rfl, hp⟩ := sh_struct h rfl
  obtain ⟨x, y, rfl, h1, h2⟩ := sh2 hp
  obtain ⟨a, rfl, ha⟩ := shInt h1
  obtain ⟨b, rfl, hb⟩ := sh_str h2 rfl
  exact ⟨⟨a, b⟩, rfl, hb⟩
theorem shFrm {xs : List AV} (h : Sh Tryz.prog B20 76 xs) : ∃ f : Frm, xs = encFrm f ∧ f.clitics.length ≤ B20 := by
  obtain ⟨ps, rfl, hp⟩ := sh_struct h rfl
  obtain ⟨x, y, z, rfl, h1, h2, h3⟩ := sh3 hp
  obtain ⟨a, rfl, ha⟩ := shInt h1
  obtain ⟨b, rfl, hb⟩ := shInt h2
  obtain ⟨c, rfl, hc, _⟩ := shInts h3
  exact ⟨⟨a, b, c⟩, rfl, hc⟩
/-- a word as an argument -/
structure WrdArg (w : Wrd) : Prop where
  cl : w.form.clitics.length ≤ B20
  us : w.uses.length ≤ B20
  text : ∀ u ∈ w.uses, u.text.length ≤ B20
theorem shWrd {xs : List AV} (h : Sh Tryz.prog B20 78 xs) : ∃ w : Wrd, xs = encWrd w ∧ WrdArg w := by
  obtain ⟨ps, rfl, hp⟩ := sh_struct h rfl
  obtain ⟨x, y, rfl, h1, h2⟩ := sh2 hp
  obtain ⟨a, rfl, ha⟩ := shFrm h1
  obtain ⟨b, rfl, hb, hf⟩ := sh_list (enc := encUse) h2 rfl fun y hy => shUse hy
  exact ⟨⟨a, b⟩, rfl, ha, hb, hf⟩
theorem argInt {x : AV} (h : ArgSh Tryz.prog B20 3 x) : ∃ n : Int, x = .int .i64 n ∧ IntKind.i64.has n := by
  obtain ⟨xs, h, hx⟩ := h
  have hx : xs = [x] := hx
  obtain ⟨n, h1, h2⟩ := shInt h
  rw [hx] at h1
  cases h1
  exact ⟨n, rfl, h2⟩
theorem argHou {x : AV} (h : ArgSh Tryz.prog B20 33 x) : ∃ H : Hou, x = .agg (encHou H) ∧ HouFit H := by
  obtain ⟨xs, h, hx⟩ := h
  have hx : x = .agg xs := hx
  subst hx
  obtain ⟨H, rfl, hf⟩ := shHou h
  exact ⟨H, rfl, hf⟩
theorem argInts {x : AV} (h : ArgSh Tryz.prog B20 42 x) : ∃ l : List Int, x = .sl 1 none (ints l) ∧ l.length ≤ B20 ∧ ∀ a ∈ l, IntKind.i64.has a := by
  obtain ⟨xs, h, hx⟩ := h
  have hx : xs = [x] := hx
  obtain ⟨l, h1, h2⟩ := shInts h
  rw [hx] at h1
  cases h1
  exact ⟨l, rfl, h2⟩
theorem argWrds {x : AV} (h : ArgSh Tryz.prog B20 53 x) : ∃ l : List Wrd, x = .sl 4 none (l.map encWrd) ∧ l.length ≤ B20 ∧ ∀ w ∈ l, WrdArg w := by
  obtain ⟨xs, h, hx⟩ := h
  have hx : xs = [x] := hx
  obtain ⟨l, h1, h2⟩ := sh_list (enc := encWrd) h rfl fun y hy => shWrd hy
  rw [hx] at h1
  cases h1
  exact ⟨l, rfl, h2⟩
theorem args3 {ts : List TypeId} {a b c : TypeId} {xs : List AV} (ht : ts = [a, b, c]) (h : ArgShs Tryz.prog B20 ts xs) : ∃ x y z, xs = [x, y, z] ∧ ArgSh Tryz.prog B20 a x ∧ ArgSh Tryz.prog B20 b y ∧ ArgSh Tryz.prog B20 c z := by
  subst ht
  match xs, h with
  | [x, y, z], ⟨h1, h2, h3, _⟩ => exact ⟨x, y, z, rfl, h1, h2, h3⟩
theorem sh_pair {P : Program} {B : Nat} {t e : TypeId} {xs : List AV} (h : Sh P B t xs) (hu : P.underlying t = some (.array 2 e)) : ∃ x y, xs = x ++ y ∧ Sh P B e x ∧ Sh P B e y := by
  cases h with
  | bool h1 => rw [hu] at h1; cases h1
  | int h1 _ => rw [hu] at h1; cases h1
  | str h1 _ => rw [hu] at h1; cases h1
  | slice h1 _ _ => rw [hu] at h1; cases h1
  | struct h1 hl hp => rw [hu] at h1; cases h1
  | @array _ e' n ps h1 hl hp =>
    rw [hu] at h1; cases h1
    match ps, hl, hp with
    | [x, y], _, hp => exact ⟨x, y, by simp, hp x (by simp), hp y (by simp)⟩
def encPair (p : Int × Int) : List AV := [.int .i64 p.1, .int .i64 p.2]
def PairHas (p : Int × Int) : Prop := IntKind.i64.has p.1 ∧ IntKind.i64.has p.2
theorem shPair {xs : List AV} (h : Sh Tryz.prog B20 128 xs) : ∃ p : Int × Int, xs = encPair p ∧ PairHas p := by
  obtain ⟨x, y, rfl, h1, h2⟩ := sh_pair h rfl
  obtain ⟨a, rfl, ha⟩ := shInt h1
  obtain ⟨b, rfl, hb⟩ := shInt h2
  exact ⟨(a, b), rfl, ha, hb⟩
structure Bnd where
  table : List Int
  changes : List (Int × Int)
  cost : Int
structure BndArg (b : Bnd) : Prop where
  table : b.table.length ≤ B20
  has : ∀ a ∈ b.table, IntKind.i64.has a
  many : b.changes.length ≤ B20
  pairs : ∀ p ∈ b.changes, PairHas p
structure Cas where
  house : Hou
  line : List Int
def encCas (c : Cas) : List AV := encHou c.house ++ [.sl 1 none (ints c.line)]
theorem argCas {x : AV} (h : ArgSh Tryz.prog B20 71 x) : ∃ c : Cas, x = .agg (encCas c) ∧ HouFit c.house ∧ c.line.length ≤ B20 := by
  obtain ⟨xs, h, hx⟩ := h
  have hx : x = .agg xs := hx
  subst hx
  obtain ⟨ps, rfl, hp⟩ := sh_struct h rfl
  obtain ⟨x, y, rfl, h1, h2⟩ := sh2 hp
  obtain ⟨a, rfl, ha⟩ := shHou h1
  obtain ⟨b, rfl, hb, _⟩ := shInts h2
  exact ⟨⟨a, b⟩, by simp [encCas], ha, hb⟩
end Go.Abs.Wall

