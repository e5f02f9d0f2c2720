/- What is proved: small laws for the walks of this seat, and contracts of its functions. No condition but those each theorem names. -/
import Derived.Test.YtbgnfchlelhbeaaM6
import Derived.Test.YtbgnfchlelhbeaaM4
set_option maxRecDepth 100000
set_option linter.unusedVariables false
namespace Go.Abs.Wall
open Go Go.Abs Go.Proofs Go.Proofs.Ytbgnfchlelhbeaa.Br
/-! ### plain data -/
def ShParts (P : Program) (B : Nat) : List TypeId → List (List AV) → Prop
  | [], [] => True
  | t :: ts, p :: ps => Sh P B t p ∧ ShParts P B ts ps
  | _, _ => False
theorem sh_parts {P : Program} {B : Nat} : ∀ {ts : List TypeId} {ps : List (List AV)}, ps.length = ts.length → (∀ (i : Nat) t p, ts[i]? = some t → ps[i]? = some p → Sh P B t p) → ShParts P B ts ps
  | [], [], _, _ => trivial
  | t :: ts, p :: ps, hl, h => ⟨h 0 t p rfl rfl, sh_parts (by simpa using hl) fun i t' p' h1 h2 => h (i + 1) t' p' (by simpa using h1) (by simpa using h2)⟩
  | [], _ :: _, hl, _ => by simp at hl
  | _ :: _, [], hl, _ => by simp at hl
theorem sh_struct {P : Program} {B : Nat} {t : TypeId} {fs : Array Field} {xs : List AV} (h : Sh P B t xs) (hu : P.underlying t = some (.struct fs)) : ∃ ps, xs = ps.flatten ∧ ShParts P B (fs.toList.map (·.type)) ps := by
  cases h with
  | bool h1 => rw [hu] at h1; cases h1
  | int h1 _ => rw [hu] at h1; cases h1
  | str h1 _ => rw [hu] at h1; cases h1
  | slice h1 _ _ => rw [hu] at h1; cases h1
  | @struct _ fs' ps h1 hl hp =>
    rw [hu] at h1; cases h1
    refine ⟨ps, rfl, sh_parts (by simpa using hl) fun i t p h1 h2 => ?_⟩
    rw [List.getElem?_map] at h1
    cases hf : fs.toList[i]? with
    | none => rw [hf] at h1; cases h1
    | some f => rw [hf] at h1; cases h1; exact hp i f p hf h2
theorem sh_int {P : Program} {B : Nat} {t : TypeId} {k : IntKind} {xs : List AV} (h : Sh P B t xs) (hu : P.underlying t = some (.int k)) : ∃ n : Int, xs = [.int k n] ∧ k.has n := by
  cases h with
  | bool h1 => rw [hu] at h1; cases h1
  | int h1 h2 => rw [hu] at h1; cases h1; exact ⟨_, rfl, wf_has h2⟩
  | str h1 _ => rw [hu] at h1; cases h1
  | slice h1 _ _ => rw [hu] at h1; cases h1
  | struct h1 hl hp => rw [hu] at h1; cases h1
theorem sh_bool {P : Program} {B : Nat} {t : TypeId} {xs : List AV} (h : Sh P B t xs) (hu : P.underlying t = some .bool) : ∃ b : Bool, xs = [.bool b] := by
  cases h with
  | bool h1 => exact ⟨_, rfl⟩
  | int h1 h2 => rw [hu] at h1; cases h1
  | str h1 _ => rw [hu] at h1; cases h1
  | slice h1 _ _ => rw [hu] at h1; cases h1
  | struct h1 hl hp => rw [hu] at h1; cases h1
theorem sh_str {P : Program} {B : Nat} {t : TypeId} {xs : List AV} (h : Sh P B t xs) (hu : P.underlying t = some .string) : ∃ s, xs = [.str s] ∧ s.length ≤ B := by
  cases h with
  | bool h1 => rw [hu] at h1; cases h1
  | int h1 h2 => rw [hu] at h1; cases h1
  | str h1 h2 => exact ⟨_, rfl, h2⟩
  | slice h1 _ _ => rw [hu] at h1; cases h1
  | struct h1 hl hp => rw [hu] at h1; cases h1
theorem sh_list {P : Program} {B : Nat} {t e : TypeId} {xs : List AV} {α : Type} {enc : α → List AV} {Fit : α → Prop} (h : Sh P B t xs) (hu : P.underlying t = some (.slice e)) (he : ∀ y, Sh P B e y → ∃ a, y = enc a ∧ Fit a) :
    ∃ l : List α, xs = [.sl (P.cellsOf e) none (l.map enc)] ∧ l.length ≤ B ∧ ∀ a ∈ l, Fit a := by
  cases h with
  | bool h1 => rw [hu] at h1; cases h1
  | int h1 h2 => rw [hu] at h1; cases h1
  | str h1 _ => rw [hu] at h1; cases h1
  | @slice _ e' ys h1 h2 h3 =>
    rw [hu] at h1; cases h1
    suffices hk : ∃ l : List α, ys = l.map enc ∧ ∀ a ∈ l, Fit a by
      obtain ⟨l, rfl, hf⟩ := hk
      exact ⟨l, rfl, by simpa using h2, hf⟩
    clear h2
    induction ys with
    | nil => exact ⟨[], rfl, by simp⟩
    | cons y ys ih =>
      obtain ⟨l, rfl, hf⟩ := ih fun z hz => h3 z (by simp [hz])
      obtain ⟨a, rfl, ha⟩ := he y (h3 y (by simp))
      exact ⟨a :: l, rfl, fun b hb => by rcases List.mem_cons.1 hb with rfl | hb; exact ha; exact hf b hb⟩
  | struct h1 hl hp => rw [hu] at h1; cases h1
theorem sh2 {P : Program} {B : Nat} {a b : TypeId} {ps : List (List AV)} (h : ShParts P B [a, b] ps) : ∃ x y, ps = [x, y] ∧ Sh P B a x ∧ Sh P B b y := by
  match ps, h with
  | [x, y], ⟨h1, h2, _⟩ => exact ⟨x, y, rfl, h1, h2⟩
theorem sh3 {P : Program} {B : Nat} {a b c : TypeId} {ps : List (List AV)} (h : ShParts P B [a, b, c] ps) : ∃ x y z, ps = [x, y, z] ∧ Sh P B a x ∧ Sh P B b y ∧ Sh P B c z := by
  match ps, h with
  | [x, y, z], ⟨h1, h2, h3, _⟩ => exact ⟨x, y, z, rfl, h1, h2, h3⟩
theorem sh4 {P : Program} {B : Nat} {a b c d : TypeId} {ps : List (List AV)} (h : ShParts P B [a, b, c, d] ps) : ∃ x y z u, ps = [x, y, z, u] ∧ Sh P B a x ∧ Sh P B b y ∧ Sh P B c z ∧ Sh P B d u := by
  match ps, h with
  | [x, y, z, u], ⟨h1, h2, h3, h4, _⟩ => exact ⟨x, y, z, u, rfl, h1, h2, h3, h4⟩
theorem sh5 {P : Program} {B : Nat} {a b c d e : TypeId} {ps : List (List AV)} (h : ShParts P B [a, b, c, d, e] ps) : ∃ x y z u v, ps = [x, y, z, u, v] ∧ Sh P B a x ∧ Sh P B b y ∧ Sh P B c z ∧ Sh P B d u ∧ Sh P B e v := by
  match ps, h with
  | [x, y, z, u, v], ⟨h1, h2, h3, h4, h5, _⟩ => exact ⟨x, y, z, u, v, rfl, h1, h2, h3, h4, h5⟩
abbrev B20 : Nat := 1048576
theorem shInt {xs : List AV} (h : Sh Try.prog B20 3 xs) : ∃ n : Int, xs = [.int .i64 n] ∧ IntKind.i64.has n := sh_int h rfl
theorem shInts {xs : List AV} (h : Sh Try.prog B20 26 xs) : ∃ l : List Int, xs = [.sl 1 none (ints l)] ∧ l.length ≤ B20 ∧ ∀ a ∈ l, IntKind.i64.has a :=
  sh_list (enc := fun x => [AV.int .i64 x]) h rfl fun y hy => shInt hy
theorem shVal {xs : List AV} (h : Sh Try.prog B20 161 xs) : ∃ v : Val, xs = encVal v ∧ v.text.length ≤ B20 := by
  obtain ⟨ps, rfl, hp⟩ := sh_struct h rfl
  obtain ⟨x, y, z, u, rfl, h1, h2, h3, h4⟩ := sh4 hp
  obtain ⟨a, rfl, _⟩ := shInt h1
  obtain ⟨b, rfl, hb⟩ := sh_str h2 rfl
  obtain ⟨c, rfl, _⟩ := shInt h3
  obtain ⟨d, rfl, _⟩ := shInt h4
  exact ⟨⟨a, b, c, d⟩, rfl, hb⟩
theorem shSgn {xs : List AV} (h : Sh Try.prog B20 89 xs) : ∃ s : Sgn, xs = encSgn s ∧ SgnFit s := by
  obtain ⟨ps, rfl, hp⟩ := sh_struct h rfl
  obtain ⟨x, y, z, u, v, rfl, h1, h2, h3, h4, h5⟩ := sh5 hp
  obtain ⟨a, rfl, ha⟩ := sh_str h1 rfl
  obtain ⟨b, rfl, hb⟩ := shInt h2
  obtain ⟨c, rfl, _⟩ := shInt h3
  obtain ⟨d, rfl⟩ := sh_bool h4 rfl
  obtain ⟨e, rfl, he, hf⟩ := sh_list (enc := encVal) h5 rfl fun y hy => shVal hy
  exact ⟨⟨a, b, c, d, e⟩, rfl, by unfold LMAX; simp only; unfold B20 at ha; omega, by unfold LMAX; simp only; unfold B20 at he; omega, fun v hv => by have := hf v hv; unfold LMAX; unfold B20 at this; omega⟩
theorem shLst {x : AV} (h : ArgSh Try.prog B20 24 x) : ∃ l : Lst, x = .agg (encLst l) ∧ LstFit l := by
  obtain ⟨xs, h, hx⟩ := h
  have hx : x = .agg xs := hx
  subst hx
  obtain ⟨ps, rfl, hp⟩ := sh_struct h rfl
  obtain ⟨y, z, rfl, h1, h2⟩ := sh2 hp
  obtain ⟨a, rfl, _⟩ := shInt h1
  obtain ⟨b, rfl, hb, hf⟩ := sh_list (enc := encSgn) h2 rfl fun y hy => shSgn hy
  exact ⟨⟨a, b⟩, rfl, by unfold LMAX; simp only; unfold B20 at hb; omega, hf⟩
theorem shCel {xs : List AV} (h : Sh Try.prog B20 38 xs) : ∃ c : Cel, xs = encCel c ∧ c.signs.length ≤ 1048576 := by
  obtain ⟨ps, rfl, hp⟩ := sh_struct h rfl
  obtain ⟨x, y, z, rfl, h1, h2, h3⟩ := sh3 hp
  obtain ⟨a, rfl, _⟩ := shInt h1
  obtain ⟨b, rfl, _⟩ := shInt h2
  obtain ⟨c, rfl, hc, _⟩ := shInts h3
  exact ⟨⟨a, b, c⟩, rfl, hc⟩
theorem shCels {xs : List AV} (h : Sh Try.prog B20 25 xs) : ∃ cs : List Cel, xs = [.sl 3 none (cs.map encCel)] ∧ CelsFit cs := by
  obtain ⟨l, rfl, h1, h2⟩ := sh_list (enc := encCel) h rfl fun y hy => shCel hy
  exact ⟨l, rfl, h1, h2⟩
theorem argCels {x : AV} (h : ArgSh Try.prog B20 25 x) : ∃ cs : List Cel, x = .sl 3 none (cs.map encCel) ∧ CelsFit cs := by
  obtain ⟨xs, h, hx⟩ := h
  have hx : xs = [x] := hx
  obtain ⟨cs, h1, h2⟩ := shCels h
  exact ⟨cs, by rw [hx] at h1; exact (List.cons.inj h1).1, h2⟩
theorem argInts {x : AV} (h : ArgSh Try.prog B20 26 x) : ∃ l : List Int, x = .sl 1 none (ints l) ∧ l.length ≤ B20 ∧ ∀ a ∈ l, IntKind.i64.has a := by
  obtain ⟨xs, h, hx⟩ := h
  have hx : xs = [x] := hx
  obtain ⟨cs, h1, h2⟩ := shInts h
  exact ⟨cs, by rw [hx] at h1; exact (List.cons.inj h1).1, h2⟩
theorem args3 {ts : List TypeId} {a b c : TypeId} {xs : List AV} (ht : ts = [a, b, c]) (h : ArgShs Try.prog B20 ts xs) : ∃ x y z, xs = [x, y, z] ∧ ArgSh Try.prog B20 a x ∧ ArgSh Try.prog B20 b y ∧ ArgSh Try.prog B20 c z := by
  subst ht
  match xs, h with
  | [x, y, z], ⟨h1, h2, h3, _⟩ => exact ⟨x, y, z, rfl, h1, h2, h3⟩
end Go.Abs.Wall
set_option maxRecDepth 100000
set_option linter.unusedVariables false
namespace Go.Abs.Wall
open Go Go.Abs Go.Proofs
/-! ### Verify -/
theorem srcGo_length (par : List Int) : ∀ (a b : List Int), a.length = b.length → (srcGo par a b).length = b.length
  | [], b, h => by cases b <;> simp [srcGo] at h ⊢
  | x :: a, [], h => by simp at h
  | x :: a, y :: b, h => by simp [srcGo, srcGo_length par a b (by simpa using h)]
end Go.Abs.Wall
set_option maxRecDepth 100000
set_option linter.unusedVariables false
namespace Go.Abs.Wall
open Go Go.Abs Go.Proofs
/-! ### rows of rows that grow -/
def setT (tk : Nat → Option Nat) (c q : Nat) : Nat → Option Nat := fun j => if j = c then some q else tk j
def setB (bk : Nat → List Int) (c : Nat) (s : Int) : Nat → List Int := fun j => if j = c then bk j ++ [s] else bk j
/-! ### Lost -/
def bkt : List Int → List Int → Int → List Int
  | d :: D, s :: S, c => if d = c then s :: bkt D S c else bkt D S c
  | _, _, _ => []
theorem divS_bd : ∀ (cs : List Cel) (l : List Int) (k : Int), ∀ d ∈ divS cs l k, k ≤ d ∧ d < k + cs.length
  | [], l, k, d, h => by cases h
  | c :: cs, l, k, d, h => by
    rw [divS, List.mem_append] at h
    simp only [List.length_cons]
    rcases h with h | h
    · have := List.eq_of_mem_replicate h; omega
    · have := divS_bd cs _ _ d h; omega
theorem bkt_drop {D S : List Int} {i : Nat} {d s : Int} (c : Int) (hd : D[i]? = some d) (hs : S[i]? = some s) : bkt (D.drop i) (S.drop i) c = if d = c then s :: bkt (D.drop (i + 1)) (S.drop (i + 1)) c else bkt (D.drop (i + 1)) (S.drop (i + 1)) c := by
  rw [drop_cons hd, drop_cons hs, bkt]
/-- where the rows stand in the walk -/
structure LI (n : Nat) (D S : List Int) (i : Nat) (tk : Nat → Option Nat) (bk : Nat → List Int) : Prop where
  eq : ∀ c, c < n → bkt D S c = bk c ++ bkt (D.drop i) (S.drop i) c
  nil : ∀ c, tk c = none → bk c = []
theorem LI.step {n : Nat} {D S : List Int} {i : Nat} {tk : Nat → Option Nat} {bk : Nat → List Int} {d s : Int} {q : Nat} (h : LI n D S i tk bk) (hd : D[i]? = some d) (hs : S[i]? = some s) (h0 : 0 ≤ d) : LI n D S (i + 1) (setT tk d.toNat q) (setB bk d.toNat s) := by
  refine ⟨fun c hc => ?_, fun c hc => ?_⟩
  · rw [h.eq c hc, bkt_drop c hd hs]
    unfold setB
    by_cases e : c = d.toNat
    · rw [if_pos (show d = (c : Int) by omega), if_pos e, List.append_assoc]; rfl
    · rw [if_neg (show ¬ d = (c : Int) by omega), if_neg e]
  · unfold setT at hc
    split at hc
    · cases hc
    · rename_i e
      unfold setB
      rw [if_neg e]
      exact h.nil c hc
end Go.Abs.Wall
set_option maxRecDepth 100000
set_option linter.unusedVariables false
namespace Go.Abs.Wall
open Go Go.Abs Go.Proofs
/-! ### theory: valid cells -/
theorem good_iff {l : List Int} {n : Int} {i : Nat} (h : i < l.length) : good l n i = true ↔ (0 ≤ l[i] ∧ l[i] < n ∧ ∀ j (hj : j + 1 = i), l[j]'(by omega) < l[i]) := by
  unfold good
  rw [List.getElem?_eq_getElem h]
  simp only [Bool.and_eq_true, decide_eq_true_eq]
  cases i with
  | zero => simp; omega
  | succ j =>
    have hj : j < l.length := by omega
    simp only [List.getElem?_eq_getElem hj, decide_eq_true_eq]
    constructor
    · rintro ⟨⟨a, b⟩, c⟩
      refine ⟨a, by omega, fun j' hj' => ?_⟩
      have e : j' = j := by omega
      subst e
      exact c
    · rintro ⟨a, b, c⟩; exact ⟨⟨a, by omega⟩, c j rfl⟩
theorem rises_iff {l : List Int} {n : Int} : rises l n = true ↔ ((∀ x ∈ l, 0 ≤ x ∧ x < n) ∧ l.Pairwise (· < ·)) := by
  unfold rises
  rw [List.all_eq_true]
  constructor
  · intro h
    have hg : ∀ i (hi : i < l.length), 0 ≤ l[i] ∧ l[i] < n ∧ ∀ j (hj : j + 1 = i), l[j]'(by omega) < l[i] := fun i hi => (good_iff hi).1 (h i (List.mem_range.2 hi))
    refine ⟨fun x hx => ?_, ?_⟩
    · obtain ⟨i, hi, rfl⟩ := List.mem_iff_getElem.1 hx
      exact ⟨(hg i hi).1, (hg i hi).2.1⟩
    · rw [List.pairwise_iff_getElem]
      intro i j hi hj hij
      have key : ∀ d (hd : i + d + 1 < l.length), l[i] < l[i + d + 1] := by
        intro d
        induction d with
        | zero => intro hd; exact (hg (i + 1) hd).2.2 i rfl
        | succ d ih => intro hd; have h1 := ih (by omega); have h2 := (hg (i + (d + 1) + 1) hd).2.2 (i + d + 1) (by omega); omega
      have := key (j - i - 1) (by omega)
      simp only [show i + (j - i - 1) + 1 = j from by omega] at this
      exact this
  · rintro ⟨h1, h2⟩ i hi
    have hi := List.mem_range.1 hi
    rw [good_iff hi]
    have := h1 l[i] (List.getElem_mem hi)
    refine ⟨this.1, this.2, fun j hj => ?_⟩
    rw [List.pairwise_iff_getElem] at h2
    exact h2 j i (by omega) hi (by omega)
/-- a cell is valid -/
structure CelV (n : Int) (c : Cel) : Prop where
  mn : 0 ≤ c.mn
  mx : c.mn ≤ c.mx
  gap : c.mx ≤ 9
  up : rises c.signs n = true
  none : n = 0 → c.mx ≤ 0
theorem celBad_iff {n : Int} {c : Cel} : celBad n c = false ↔ CelV n c := by
  unfold celBad
  simp only [Bool.or_eq_false_iff, decide_eq_false_iff_not, Bool.not_eq_false', Bool.and_eq_false_iff]
  constructor
  · rintro ⟨⟨⟨⟨a, b⟩, c⟩, d⟩, e⟩; exact ⟨by omega, by omega, by omega, d, fun h => by omega⟩
  · intro h
    have h1 := h.mn; have h2 := h.mx; have h3 := h.gap
    refine ⟨⟨⟨⟨by omega, by omega⟩, by omega⟩, h.up⟩, ?_⟩
    by_cases hn : n = 0
    · right; have := h.none hn; omega
    · left; exact hn
theorem right_iff {n : Int} {cells : List Cel} : right n cells = true ↔ (cells.length ≤ 40 ∧ (∀ c ∈ cells, CelV n c) ∧ (cells.map (·.mx)).sum ≤ 60) := by
  have key : ∀ (l : List Cel) (s : Int), rightGo n cells l s = true ↔ (cells.length ≤ 40 ∧ (∀ c ∈ l, CelV n c) ∧ s + (l.map (·.mx)).sum ≤ 60) := by
    intro l
    induction l with
    | nil => intro s; simp [rightGo]
    | cons c l ih =>
      intro s
      unfold rightGo
      cases hb : celBad n c with
      | true =>
        simp only [if_true, List.mem_cons, forall_eq_or_imp]
        constructor
        · intro h; cases h
        · rintro ⟨_, ⟨h, _⟩, _⟩; rw [celBad_iff.2 h] at hb; cases hb
      | false =>
        have hv := celBad_iff.1 hb
        simp only [Bool.false_eq_true, if_false]
        rw [ih]
        simp only [List.mem_cons, forall_eq_or_imp, List.map_cons, List.sum_cons]
        constructor
        · rintro ⟨a, b, c⟩; exact ⟨a, ⟨hv, b⟩, by omega⟩
        · rintro ⟨a, ⟨_, b⟩, c⟩; exact ⟨a, b, by omega⟩
  unfold right
  rw [key]
  simp
/-! ### theory: cells that allow more -/
/-- what one cell may have the other one may -/
structure CelLe (c d : Cel) : Prop where
  mn : d.mn ≤ c.mn
  mx : c.mx ≤ d.mx
  al : 0 < c.mx → ∀ s, allows c s = true → allows d s = true
theorem St.mono {c d : Cel} {ok ok' : List Int → Bool} {l : List Int} {m : Nat} (h : CelLe c d) (ho : ∀ w, ok w = true → ok' w = true) (hs : St c ok 0 l m) : St d ok' 0 l m := by
  have h1 := h.mn; have h2 := h.mx
  obtain ⟨a, b, e, f, g⟩ := hs
  refine ⟨by omega, by omega, e, fun s hs => ?_, ho _ g⟩
  cases m with
  | zero => simp at hs
  | succ m => exact h.al (by omega) s (f s hs)
/-! ### theory: what two lists of cells have in common -/
end Go.Abs.Wall
set_option maxRecDepth 100000
set_option linter.unusedVariables false
namespace Go.Abs.Wall
open Go Go.Abs Go.Proofs
/-! ### theory: changes -/
theorem differ_zero {a b : Int} : differ a b = 0 ↔ a = b := by unfold differ; split <;> simp_all
theorem dist_drop1 (l : List Int) (b : Int) (p : List Int) : dist l (b :: p) ≤ 1 + dist l p := by
  cases l with
  | nil => rw [dist_nl, dist_nl]; simp only [List.length_cons]; omega
  | cons a l => rw [dist_cc]; omega
theorem dist_pick (a : Int) (l : List Int) : ∀ p, (∃ (o : Nat) (b : Int), p[o]? = some b ∧ o + differ a b + dist l (p.drop (o + 1)) = dist (a :: l) p) ∨ dist (a :: l) p = 1 + dist l p
  | [] => .inr (by rw [dist_cn, dist_nil]; omega)
  | b :: p => by
    have e := dist_cc a b l p
    have h1 := dist_drop1 l b p
    by_cases c1 : dist (a :: l) (b :: p) = differ a b + dist l p
    · exact .inl ⟨0, b, rfl, by simp only [Nat.zero_add, List.drop_succ_cons, List.drop_zero]; omega⟩
    · rcases dist_pick a l p with ⟨o, c, h2, h3⟩ | h2
      · by_cases c2 : dist (a :: l) (b :: p) = 1 + dist l (b :: p)
        · exact .inr c2
        · exact .inl ⟨o + 1, c, h2, by simp only [List.drop_succ_cons]; omega⟩
      · exact .inr (by omega)
theorem pick_some {a : Int} {l : List Int} {t : Int} : ∀ {p : List Int} {k o : Nat}, pick a l t p k = some o → ∃ (i : Nat) (b : Int), o = k + i ∧ p[i]? = some b ∧ (k + i : Nat) + differ a b + dist l (p.drop (i + 1)) = t
  | [], k, o, h => by cases h
  | b :: p, k, o, h => by
    unfold pick at h
    split at h
    · rename_i h1; cases h; exact ⟨0, b, rfl, rfl, by simpa using h1⟩
    · obtain ⟨i, c, h1, h2, h3⟩ := pick_some h
      exact ⟨i + 1, c, by omega, h2, by simp only [List.drop_succ_cons]; omega⟩
theorem pick_none {a : Int} {l : List Int} {t : Int} : ∀ {p : List Int} {k : Nat}, pick a l t p k = none → ∀ (i : Nat) b, p[i]? = some b → (k + i : Nat) + differ a b + dist l (p.drop (i + 1)) ≠ t
  | [], k, h, i, b, hi => by cases hi
  | c :: p, k, h, i, b, hi => by
    unfold pick at h
    split at h
    · cases h
    · rename_i h1
      cases i with
      | zero => cases hi; simpa using h1
      | succ i => have := pick_none h i b (by simpa using hi); simp only [List.drop_succ_cons]; omega
end Go.Abs.Wall
set_option maxRecDepth 100000
set_option linter.unusedVariables false
namespace Go.Abs.Wall
open Go Go.Abs Go.Proofs Go.Proofs.Ytbgnfchlelhbeaa.Br
end Go.Abs.Wall
set_option maxRecDepth 100000
set_option linter.unusedVariables false
namespace Go.Abs.Wall
open Go Go.Abs Go.Proofs Go.Proofs.Ytbgnfchlelhbeaa.Br
/-! ### Both -/
end Go.Abs.Wall
set_option maxRecDepth 100000
set_option linter.unusedVariables false
namespace Go.Abs.Wall
open Go Go.Abs Go.Proofs Go.Proofs.Ytbgnfchlelhbeaa.Br
/-! ### Distance -/
end Go.Abs.Wall
set_option maxRecDepth 100000
set_option linter.unusedVariables false
namespace Go.Abs.Wall
open Go Go.Abs Go.Proofs Go.Proofs.Ytbgnfchlelhbeaa.Br
theorem lmax {n : Nat} (h : n ≤ 1048576) : n ≤ LMAX := by unfold LMAX; omega
end Go.Abs.Wall
set_option maxRecDepth 100000
namespace Go.Abs.Wall
open Go Go.Abs Go.Proofs Go.Proofs.Ytbgnfchlelhbeaa.Br
/-! ### arguments: lists of lines, marks -/
theorem shRows {xs : List AV} (h : Sh Try.prog B20 62 xs) : ∃ ls : List (List Int), xs = [.sl 1 none (ls.map encL)] ∧ ls.length ≤ B20 ∧ ∀ p ∈ ls, p.length ≤ B20 :=
  sh_list (enc := encL) h rfl fun y hy => let ⟨l, h1, h2, _⟩ := shInts hy; ⟨l, h1, h2⟩
structure Mrk where
  sign : Int
  state : Int
  mn : Int
  mx : Int
def encMrk (m : Mrk) : List AV := [.int .i64 m.sign, .int .i64 m.state, .int .i64 m.mn, .int .i64 m.mx]
theorem shMrk {xs : List AV} (h : Sh Try.prog B20 130 xs) : ∃ m : Mrk, xs = encMrk m ∧ True := by
  obtain ⟨ps, rfl, hp⟩ := sh_struct h rfl
  obtain ⟨x, y, z, u, rfl, h1, h2, h3, h4⟩ := sh4 hp
  obtain ⟨a, rfl, _⟩ := shInt h1
  obtain ⟨b, rfl, _⟩ := shInt h2
  obtain ⟨c, rfl, _⟩ := shInt h3
  obtain ⟨d, rfl, _⟩ := shInt h4
  exact ⟨⟨a, b, c, d⟩, rfl, trivial⟩
theorem argMarked {x : AV} (h : ArgSh Try.prog B20 84 x) : ∃ (ms : List Mrk) (ls : List (List Int)) (k : Int), x = .agg [.sl 4 none (ms.map encMrk), .sl 1 none (ls.map encL), .int .i64 k] ∧ ms.length ≤ B20 ∧ ls.length ≤ B20 ∧ ∀ p ∈ ls, p.length ≤ B20 := by
  obtain ⟨xs, h, hx⟩ := h
  have hx : x = .agg xs := hx
  subst hx
  obtain ⟨ps, rfl, hp⟩ := sh_struct h rfl
  obtain ⟨y, z, u, rfl, h1, h2, h3⟩ := sh3 hp
  obtain ⟨ms, rfl, hm, _⟩ := sh_list (enc := encMrk) h1 rfl fun y hy => shMrk hy
  obtain ⟨ls, rfl, hl1, hl2⟩ := shRows h2
  obtain ⟨k, rfl, hk⟩ := shInt h3
  exact ⟨ms, ls, k, rfl, hm, hl1, hl2⟩
end Go.Abs.Wall

