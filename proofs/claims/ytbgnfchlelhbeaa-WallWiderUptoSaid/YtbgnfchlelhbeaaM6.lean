/- What is proved: small laws for the walks of this seat, and contracts of its functions. No condition but those each theorem names. -/
import Derived.Test.YtbgnfchlelhbeaaM5
import Derived.Test.YtbgnfchlelhbeaaM3
set_option maxRecDepth 100000
set_option linter.unusedVariables false
namespace Go.Abs.Wall
open Go Go.Abs Go.Proofs Go.Proofs.Ytbgnfchlelhbeaa.Br
/-! ### plain data -/
def ShParts (P : Program) (B : Nat) : List TypeId → List (List AV) → Prop
  | [], [] => True
  | t :: ts, p :: ps => Sh P B t p ∧ ShParts P B ts ps
  | _, _ => False
theorem sh_parts {P : Program} {B : Nat} : ∀ {ts : List TypeId} {ps : List (List AV)}, ps.length = ts.length → (∀ (i : Nat) t p, ts[i]? = some t → ps[i]? = some p → Sh P B t p) → ShParts P B ts ps
  | [], [], _, _ => trivial
  | t :: ts, p :: ps, hl, h => ⟨h 0 t p rfl rfl, sh_parts (by simpa using hl) fun i t' p' h1 h2 => h (i + 1) t' p' (by simpa using h1) (by simpa using h2)⟩
  | [], _ :: _, hl, _ => by simp at hl
  | _ :: _, [], hl, _ => by simp at hl
theorem sh_struct {P : Program} {B : Nat} {t : TypeId} {fs : Array Field} {xs : List AV} (h : Sh P B t xs) (hu : P.underlying t = some (.struct fs)) : ∃ ps, xs = ps.flatten ∧ ShParts P B (fs.toList.map (·.type)) ps := by
  cases h with
  | bool h1 => rw [hu] at h1; cases h1
  | int h1 _ => rw [hu] at h1; cases h1
  | str h1 _ => rw [hu] at h1; cases h1
  | slice h1 _ _ => rw [hu] at h1; cases h1
  | @struct _ fs' ps h1 hl hp =>
    rw [hu] at h1; cases h1
    refine ⟨ps, rfl, sh_parts (by simpa using hl) fun i t p h1 h2 => ?_⟩
    rw [List.getElem?_map] at h1
    cases hf : fs.toList[i]? with
    | none => rw [hf] at h1; cases h1
    | some f => rw [hf] at h1; cases h1; exact hp i f p hf h2
theorem sh_int {P : Program} {B : Nat} {t : TypeId} {k : IntKind} {xs : List AV} (h : Sh P B t xs) (hu : P.underlying t = some (.int k)) : ∃ n : Int, xs = [.int k n] ∧ k.has n := by
  cases h with
  | bool h1 => rw [hu] at h1; cases h1
  | int h1 h2 => rw [hu] at h1; cases h1; exact ⟨_, rfl, wf_has h2⟩
  | str h1 _ => rw [hu] at h1; cases h1
  | slice h1 _ _ => rw [hu] at h1; cases h1
  | struct h1 hl hp => rw [hu] at h1; cases h1
theorem sh_bool {P : Program} {B : Nat} {t : TypeId} {xs : List AV} (h : Sh P B t xs) (hu : P.underlying t = some .bool) : ∃ b : Bool, xs = [.bool b] := by
  cases h with
  | bool h1 => exact ⟨_, rfl⟩
  | int h1 h2 => rw [hu] at h1; cases h1
  | str h1 _ => rw [hu] at h1; cases h1
  | slice h1 _ _ => rw [hu] at h1; cases h1
  | struct h1 hl hp => rw [hu] at h1; cases h1
theorem sh_str {P : Program} {B : Nat} {t : TypeId} {xs : List AV} (h : Sh P B t xs) (hu : P.underlying t = some .string) : ∃ s, xs = [.str s] ∧ s.length ≤ B := by
  cases h with
  | bool h1 => rw [hu] at h1; cases h1
  | int h1 h2 => rw [hu] at h1; cases h1
  | str h1 h2 => exact ⟨_, rfl, h2⟩
  | slice h1 _ _ => rw [hu] at h1; cases h1
  | struct h1 hl hp => rw [hu] at h1; cases h1
theorem sh_list {P : Program} {B : Nat} {t e : TypeId} {xs : List AV} {α : Type} {enc : α → List AV} {Fit : α → Prop} (h : Sh P B t xs) (hu : P.underlying t = some (.slice e)) (he : ∀ y, Sh P B e y → ∃ a, y = enc a ∧ Fit a) :
    ∃ l : List α, xs = [.sl (P.cellsOf e) none (l.map enc)] ∧ l.length ≤ B ∧ ∀ a ∈ l, Fit a := by
  cases h with
  | bool h1 => rw [hu] at h1; cases h1
  | int h1 h2 => rw [hu] at h1; cases h1
  | str h1 _ => rw [hu] at h1; cases h1
  | @slice _ e' ys h1 h2 h3 =>
    rw [hu] at h1; cases h1
    suffices hk : ∃ l : List α, ys = l.map enc ∧ ∀ a ∈ l, Fit a by
      obtain ⟨l, rfl, hf⟩ := hk
      exact ⟨l, rfl, by simpa using h2, hf⟩
    clear h2
    induction ys with
    | nil => exact ⟨[], rfl, by simp⟩
    | cons y ys ih =>
      obtain ⟨l, rfl, hf⟩ := ih fun z hz => h3 z (by simp [hz])
      obtain ⟨a, rfl, ha⟩ := he y (h3 y (by simp))
      exact ⟨a :: l, rfl, fun b hb => by rcases List.mem_cons.1 hb with rfl | hb; exact ha; exact hf b hb⟩
  | struct h1 hl hp => rw [hu] at h1; cases h1
theorem sh2 {P : Program} {B : Nat} {a b : TypeId} {ps : List (List AV)} (h : ShParts P B [a, b] ps) : ∃ x y, ps = [x, y] ∧ Sh P B a x ∧ Sh P B b y := by
  match ps, h with
  | [x, y], ⟨h1, h2, _⟩ => exact ⟨x, y, rfl, h1, h2⟩
theorem sh3 {P : Program} {B : Nat} {a b c : TypeId} {ps : List (List AV)} (h : ShParts P B [a, b, c] ps) : ∃ x y z, ps = [x, y, z] ∧ Sh P B a x ∧ Sh P B b y ∧ Sh P B c z := by
  match ps, h with
  | [x, y, z], ⟨h1, h2, h3, _⟩ => exact ⟨x, y, z, rfl, h1, h2, h3⟩
theorem sh4 {P : Program} {B : Nat} {a b c d : TypeId} {ps : List (List AV)} (h : ShParts P B [a, b, c, d] ps) : ∃ x y z u, ps = [x, y, z, u] ∧ Sh P B a x ∧ Sh P B b y ∧ Sh P B c z ∧ Sh P B d u := by
  match ps, h with
  | [x, y, z, u], ⟨h1, h2, h3, h4, _⟩ => exact ⟨x, y, z, u, rfl, h1, h2, h3, h4⟩
theorem sh5 {P : Program} {B : Nat} {a b c d e : TypeId} {ps : List (List AV)} (h : ShParts P B [a, b, c, d, e] ps) : ∃ x y z u v, ps = [x, y, z, u, v] ∧ Sh P B a x ∧ Sh P B b y ∧ Sh P B c z ∧ Sh P B d u ∧ Sh P B e v := by
  match ps, h with
  | [x, y, z, u, v], ⟨h1, h2, h3, h4, h5, _⟩ => exact ⟨x, y, z, u, v, rfl, h1, h2, h3, h4, h5⟩
theorem sh6 {P : Program} {B : Nat} {a b c d e f : TypeId} {ps : List (List AV)} (h : ShParts P B [a, b, c, d, e, f] ps) : ∃ x y z u v w, ps = [x, y, z, u, v, w] ∧ Sh P B a x ∧ Sh P B b y ∧ Sh P B c z ∧ Sh P B d u ∧ Sh P B e v ∧ Sh P B f w := by
  match ps, h with
  | [x, y, z, u, v, w], ⟨h1, h2, h3, h4, h5, h6, _⟩ => exact ⟨x, y, z, u, v, w, rfl, h1, h2, h3, h4, h5, h6⟩
abbrev B20 : Nat := 1048576
theorem shInt {xs : List AV} (h : Sh Try.prog B20 3 xs) : ∃ n : Int, xs = [.int .i64 n] ∧ IntKind.i64.has n := sh_int h rfl
theorem shInts {xs : List AV} (h : Sh Try.prog B20 26 xs) : ∃ l : List Int, xs = [.sl 1 none (ints l)] ∧ l.length ≤ B20 ∧ ∀ a ∈ l, IntKind.i64.has a :=
  sh_list (enc := fun x => [AV.int .i64 x]) h rfl fun y hy => shInt hy
theorem shVal {xs : List AV} (h : Sh Try.prog B20 161 xs) : ∃ v : Val, xs = encVal v ∧ v.text.length ≤ B20 := by
  obtain ⟨ps, rfl, hp⟩ := sh_struct h rfl
  obtain ⟨x, y, z, u, rfl, h1, h2, h3, h4⟩ := sh4 hp
  obtain ⟨a, rfl, _⟩ := shInt h1
  obtain ⟨b, rfl, hb⟩ := sh_str h2 rfl
  obtain ⟨c, rfl, _⟩ := shInt h3
  obtain ⟨d, rfl, _⟩ := shInt h4
  exact ⟨⟨a, b, c, d⟩, rfl, hb⟩
theorem shSgn {xs : List AV} (h : Sh Try.prog B20 89 xs) : ∃ s : Sgn, xs = encSgn s ∧ SgnFit s := by
  obtain ⟨ps, rfl, hp⟩ := sh_struct h rfl
  obtain ⟨x, y, z, u, v, rfl, h1, h2, h3, h4, h5⟩ := sh5 hp
  obtain ⟨a, rfl, ha⟩ := sh_str h1 rfl
  obtain ⟨b, rfl, hb⟩ := shInt h2
  obtain ⟨c, rfl, _⟩ := shInt h3
  obtain ⟨d, rfl⟩ := sh_bool h4 rfl
  obtain ⟨e, rfl, he, hf⟩ := sh_list (enc := encVal) h5 rfl fun y hy => shVal hy
  exact ⟨⟨a, b, c, d, e⟩, rfl, by unfold LMAX; simp only; unfold B20 at ha; omega, by unfold LMAX; simp only; unfold B20 at he; omega, fun v hv => by have := hf v hv; unfold LMAX; unfold B20 at this; omega⟩
theorem shLst {x : AV} (h : ArgSh Try.prog B20 24 x) : ∃ l : Lst, x = .agg (encLst l) ∧ LstFit l := by
  obtain ⟨xs, h, hx⟩ := h
  have hx : x = .agg xs := hx
  subst hx
  obtain ⟨ps, rfl, hp⟩ := sh_struct h rfl
  obtain ⟨y, z, rfl, h1, h2⟩ := sh2 hp
  obtain ⟨a, rfl, _⟩ := shInt h1
  obtain ⟨b, rfl, hb, hf⟩ := sh_list (enc := encSgn) h2 rfl fun y hy => shSgn hy
  exact ⟨⟨a, b⟩, rfl, by unfold LMAX; simp only; unfold B20 at hb; omega, hf⟩
theorem shCel {xs : List AV} (h : Sh Try.prog B20 38 xs) : ∃ c : Cel, xs = encCel c ∧ c.signs.length ≤ 1048576 := by
  obtain ⟨ps, rfl, hp⟩ := sh_struct h rfl
  obtain ⟨x, y, z, rfl, h1, h2, h3⟩ := sh3 hp
  obtain ⟨a, rfl, _⟩ := shInt h1
  obtain ⟨b, rfl, _⟩ := shInt h2
  obtain ⟨c, rfl, hc, _⟩ := shInts h3
  exact ⟨⟨a, b, c⟩, rfl, hc⟩
theorem shCels {xs : List AV} (h : Sh Try.prog B20 25 xs) : ∃ cs : List Cel, xs = [.sl 3 none (cs.map encCel)] ∧ CelsFit cs := by
  obtain ⟨l, rfl, h1, h2⟩ := sh_list (enc := encCel) h rfl fun y hy => shCel hy
  exact ⟨l, rfl, h1, h2⟩
theorem argCels {x : AV} (h : ArgSh Try.prog B20 25 x) : ∃ cs : List Cel, x = .sl 3 none (cs.map encCel) ∧ CelsFit cs := by
  obtain ⟨xs, h, hx⟩ := h
  have hx : xs = [x] := hx
  obtain ⟨cs, h1, h2⟩ := shCels h
  exact ⟨cs, by rw [hx] at h1; exact (List.cons.inj h1).1, h2⟩
theorem argInts {x : AV} (h : ArgSh Try.prog B20 26 x) : ∃ l : List Int, x = .sl 1 none (ints l) ∧ l.length ≤ B20 ∧ ∀ a ∈ l, IntKind.i64.has a := by
  obtain ⟨xs, h, hx⟩ := h
  have hx : xs = [x] := hx
  obtain ⟨cs, h1, h2⟩ := shInts h
  exact ⟨cs, by rw [hx] at h1; exact (List.cons.inj h1).1, h2⟩
theorem args3 {ts : List TypeId} {a b c : TypeId} {xs : List AV} (ht : ts = [a, b, c]) (h : ArgShs Try.prog B20 ts xs) : ∃ x y z, xs = [x, y, z] ∧ ArgSh Try.prog B20 a x ∧ ArgSh Try.prog B20 b y ∧ ArgSh Try.prog B20 c z := by
  subst ht
  match xs, h with
  | [x, y, z], ⟨h1, h2, h3, _⟩ => exact ⟨x, y, z, rfl, h1, h2, h3⟩
theorem args2 {ts : List TypeId} {a b : TypeId} {xs : List AV} (ht : ts = [a, b]) (h : ArgShs Try.prog B20 ts xs) : ∃ x y, xs = [x, y] ∧ ArgSh Try.prog B20 a x ∧ ArgSh Try.prog B20 b y := by
  subst ht
  match xs, h with
  | [x, y], ⟨h1, h2, _⟩ => exact ⟨x, y, rfl, h1, h2⟩
end Go.Abs.Wall
set_option maxRecDepth 100000
set_option linter.unusedVariables false
namespace Go.Abs.Wall
open Go Go.Abs Go.Proofs
/-! ### Verify -/
def verifyErr (l : Lst) (cells : List Cel) (par : List Int) (r : Rst) : Int :=
  if checkErr l cells ≠ 0 then checkErr l cells else if linesErr l.signs.length [par, r.signs] ≠ 0 then linesErr l.signs.length [par, r.signs]
  else if divide cells r.signs = none then 71 else if restored cells par r.signs = r then 0 else 71
theorem restored_signs (cells : List Cel) (par line : List Int) : (restored cells par line).signs = line := rfl
theorem rst_eq {a b : Rst} : a = b ↔ (a.signs = b.signs ∧ a.cells = b.cells ∧ a.source = b.source ∧ a.changes = b.changes) := by
  cases a; cases b; simp
theorem srcGo_length (par : List Int) : ∀ (a b : List Int), a.length = b.length → (srcGo par a b).length = b.length
  | [], b, h => by cases b <;> simp [srcGo] at h ⊢
  | x :: a, [], h => by simp at h
  | x :: a, y :: b, h => by simp [srcGo, srcGo_length par a b (by simpa using h)]
theorem divide_len {cells : List Cel} {line d : List Int} (h : divide cells line = some d) : d.length = line.length := by
  unfold divide at h
  split at h
  · rename_i hf; cases h; exact divS_length _ _ _ hf
  · cases h
def c40 : Cfg := ⟨[0, 1, 2, 3, 4, 7, 8, 9, 11, 12, 21, 31, 57], [], [12], [], [], []⟩
def c41 : Cfg := ⟨[0, 1, 2, 3, 4, 7, 8, 9, 10, 11, 12, 18, 27, 61], [], [11], [], [], []⟩
theorem wallVerify (l : Lst) (cells : List Cel) (par : List Int) (r : Rst) (hl : LstFit l) (hc : CelsFit cells) (hp : par.length ≤ LMAX) (hr : RstFit r) :
    QCall Try.prog 40 [.agg (encLst l), .sl 3 none (cells.map encCel), .sl 1 none (ints par), .agg (encRst r)] [] (.int .i64 (verifyErr l cells par r)) := by
  have hck : QCall Try.prog 48 [.agg (encLst l), .sl 3 none (cells.map encCel), .sl 1 none [[.sl 1 none (ints par)], [.sl 1 none (ints r.signs)]]] [] (.int .i64 (checkErrN l cells [par, r.signs])) :=
    wallCheckN l cells [par, r.signs] hl hc (by simp [LMAX]) (by simp; exact ⟨hp, hr.signs⟩)
  refine QCall.of' (fcalls (F := Try.f40) c40 rfl rfl rfl mixed rfl fun X => ?_)
  conv => whnf
  repeat (refine QCall.k0 (hck) ?_; conv => whnf)
  refine ⟨fun hd => ?_, fun hd => ?_⟩ <;> simp at hd
  · conv => whnf
    unfold verifyErr
    unfold checkErrN at hd ⊢
    split at hd
    · rename_i h1; rw [if_pos h1, if_pos h1]
    · rename_i h1; rw [if_neg h1, if_pos hd, if_neg h1]
  · have h1 : checkErr l cells = 0 := by unfold checkErrN at hd; split at hd; exact hd; rename_i h; simpa using h
    have h2 : linesErr l.signs.length [par, r.signs] = 0 := by unfold checkErrN at hd; rw [if_neg (by simpa using h1)] at hd; exact hd
    have hcc := (check_ok h1 hc).1
    obtain ⟨hp60, hr60⟩ : par.length ≤ 60 ∧ r.signs.length ≤ 60 := by
      rw [linesErr_two] at h2
      split at h2
      · rename_i h; exact absurd h2 h
      · rename_i h; exact ⟨(line_ok (by simpa using h)).1, (line_ok h2).1⟩
    conv => whnf
    repeat (refine QCall.k0 (divideW cells r.signs hcc hr60) ?_; conv => whnf)
    have hv : verifyErr l cells par r = if divide cells r.signs = none then 71 else if restored cells par r.signs = r then 0 else 71 := by
      unfold verifyErr; rw [if_neg (by simpa using h1), if_neg (by simpa using h2)]
    rw [hv]
    cases hdv : divide cells r.signs with
    | none =>
      refine cT rfl ?_
      conv => whnf
      try rfl
    | some D =>
      have hD := divide_len hdv
      have hs := srcGo_length par (pairsGo r.signs par 0) r.signs (pairsGo_length r.signs par 0)
      have hrs : restored cells par r.signs = ⟨r.signs, D, srcGo par (pairsGo r.signs par 0) r.signs, dist r.signs par⟩ := by unfold restored; rw [hdv]; rfl
      refine cF rfl ?_
      conv => whnf
      repeat ((first | refine QCall.k0 (restoredW cells par r.signs hcc hp60 hr60) ?_ | refine QCall.k0 (equalI (restored cells par r.signs).cells r.cells (by rw [hrs]; unfold LMAX; simp only; omega) hr.cells) ?_
                     | refine gcall (equalI (restored cells par r.signs).source r.source (by rw [hrs]; unfold LMAX; simp only; omega) hr.source) ?_ | refine ⟨_, _, Rem.here _, ⟨Nat.le_of_ble_eq_true rfl, rfl⟩, ?_⟩
                     | intro (nb : Nat)); conv => whnf)
      by_cases hq : restored cells par r.signs = r
      · refine cF (by simp [hq]) ?_
        conv => whnf
        first | rw [if_neg (by simp), if_pos hq] | rw [if_pos hq]
        try rfl
      · refine cT (by
          have hq := fun h => hq (rst_eq.2 ⟨rfl, h⟩)
          simp only [Bool.or_eq_true, Bool.not_eq_true', decide_eq_false_iff_not]
          by_cases h1 : (restored cells par r.signs).cells = r.cells
          · by_cases h2 : (restored cells par r.signs).source = r.source
            · right; exact fun h3 => hq ⟨h1, h2, h3⟩
            · left; right; exact h2
          · left; left; simp [h1]) ?_
        conv => whnf
        first | rw [if_neg (by simp), if_neg hq] | rw [if_neg hq]
        try rfl
theorem refVerify (l : Lst) (cells : List Cel) (par : List Int) (r : Rst) (hl : LstFit l) (hc : CelsFit cells) (hp : par.length ≤ LMAX) (hr : RstFit r) :
    QCall Try.prog 41 [.agg (encLst l), .sl 3 none (cells.map encCel), .sl 1 none (ints par), .agg (encRst r)] [] (.int .i64 (verifyErr l cells par r)) := by
  refine QCall.of' (fcalls (F := Try.f41) c41 rfl rfl rfl mixed rfl fun X => ?_)
  conv => whnf
  repeat (refine QCall.k0 (refCheck1 l cells par hl hc hp) ?_; conv => whnf)
  have hv0 : verifyErr l cells par r = if checkErr1 l cells par ≠ 0 then checkErr1 l cells par else if lineErr l.signs.length r.signs ≠ 0 then lineErr l.signs.length r.signs else if divide cells r.signs = none then 71 else if restored cells par r.signs = r then 0 else 71 := by
    unfold verifyErr checkErr1
    rw [linesErr_two]
    by_cases h1 : checkErr l cells = 0
    · rw [if_neg (by simpa using h1), if_neg (show ¬ checkErr l cells ≠ 0 by simpa using h1)]
      by_cases h2 : lineErr l.signs.length par = 0
      · rw [if_neg (show ¬ lineErr l.signs.length par ≠ 0 by simpa using h2), if_neg (show ¬ lineErr l.signs.length par ≠ 0 by simpa using h2)]
      · rw [if_pos (show lineErr l.signs.length par ≠ 0 by simpa using h2), if_pos (show lineErr l.signs.length par ≠ 0 by simpa using h2), if_pos (show lineErr l.signs.length par ≠ 0 by simpa using h2)]
    · rw [if_pos h1, if_pos h1, if_pos h1]
  rw [hv0]
  refine ⟨fun hd => ?_, fun hd => ?_⟩ <;> simp at hd
  · conv => whnf
    rw [if_pos hd]
    try rfl
  · rw [if_neg (by simpa using hd)]
    obtain ⟨hcc, hp60⟩ := check1_ok hd hc
    conv => whnf
    rw [List.length_map]
    repeat (refine QCall.k0 (checkLine l.signs.length r.signs hr.signs) ?_; conv => whnf)
    refine ⟨fun he => ?_, fun he => ?_⟩ <;> simp at he
    · conv => whnf
      rw [if_pos he]
      try rfl
    · rw [if_neg (by simpa using he)]
      have hr60 := (line_ok he).1
      conv => whnf
      repeat ((first | refine QCall.k0 (wholeR cells par r.signs hcc hp60 hr60) ?_ | refine ⟨_, _, Rem.here _, ⟨Nat.le_of_ble_eq_true rfl, rfl⟩, ?_⟩ | intro (nb : Nat)); conv => whnf)
      cases hdv : divide cells r.signs with
      | none =>
        rw [if_pos rfl, if_pos rfl]
        conv => whnf
        repeat ((first | refine gcall (refSameInts [] r.cells (by decide) hr.cells) ?_ | refine gcall (refSameInts [] r.source (by decide) hr.source) ?_); conv => whnf)
        refine cT (by simp) ?_
        conv => whnf
        try rfl
      | some D =>
        have hD := divide_len hdv
        have hs := srcGo_length par (pairsGo r.signs par 0) r.signs (pairsGo_length r.signs par 0)
        have hrs : restored cells par r.signs = ⟨r.signs, D, srcGo par (pairsGo r.signs par 0) r.signs, dist r.signs par⟩ := by unfold restored; rw [hdv]; rfl
        rw [if_neg (by simp), if_neg (by simp)]
        conv => whnf
        repeat ((first | refine gcall (refSameInts (restored cells par r.signs).cells r.cells (by rw [hrs]; unfold LMAX; simp only; omega) hr.cells) ?_ | refine gcall (refSameInts (restored cells par r.signs).source r.source (by rw [hrs]; unfold LMAX; simp only; omega) hr.source) ?_); conv => whnf)
        by_cases hq : restored cells par r.signs = r
        · refine cF (by simp [hq]) ?_
          conv => whnf
          first | rw [if_neg (by simp), if_pos hq] | rw [if_pos hq]
          try rfl
        · refine cT (by
            have hq := fun h => hq (rst_eq.2 ⟨rfl, h⟩)
            simp only [Bool.or_eq_true, Bool.not_eq_true', decide_eq_false_iff_not]
            by_cases h1 : (restored cells par r.signs).cells = r.cells
            · by_cases h2 : (restored cells par r.signs).source = r.source
              · right; exact fun h3 => hq ⟨h1, h2, h3⟩
              · left; right; exact h2
            · left; left; simp [h1]) ?_
          conv => whnf
          first | rw [if_neg (by simp), if_neg hq] | rw [if_neg hq]
          try rfl
end Go.Abs.Wall
set_option maxRecDepth 100000
set_option linter.unusedVariables false
namespace Go.Abs.Wall
open Go Go.Abs Go.Proofs
/-! ### rows of rows that grow -/
def tkL (l : List Nat) (tk : Nat → Option Nat) : Heap := l.filterMap fun c => (tk c).map fun q => (q, Ob.tok)
def setT (tk : Nat → Option Nat) (c q : Nat) : Nat → Option Nat := fun j => if j = c then some q else tk j
theorem tkL_same {l : List Nat} {tk : Nat → Option Nat} {c q : Nat} (h : c ∉ l) : tkL l (setT tk c q) = tkL l tk := by
  induction l with
  | nil => rfl
  | cons a l ih =>
    simp only [List.mem_cons, not_or] at h
    have e : setT tk c q a = tk a := by unfold setT; rw [if_neg (fun e => h.1 e.symm)]
    unfold tkL at ih ⊢
    rw [List.filterMap_cons, List.filterMap_cons, e, ih h.2]
theorem tkL_cons (a : Nat) (l : List Nat) (tk : Nat → Option Nat) : tkL (a :: l) tk = match tk a with | none => tkL l tk | some q => (q, Ob.tok) :: tkL l tk := by
  unfold tkL
  rw [List.filterMap_cons]
  cases tk a <;> rfl
theorem tkL_none : ∀ l : List Nat, tkL l (fun _ => none) = []
  | [] => rfl
  | a :: l => by rw [tkL_cons]; exact tkL_none l
theorem tkL_upd {c q q' : Nat} {tk : Nat → Option Nat} (hq : tk c = some q) : ∀ {l : List Nat}, l.Nodup → c ∈ l → Upd q .tok q' .tok (tkL l tk) (tkL l (setT tk c q'))
  | [], _, h => by cases h
  | a :: l, hn, h => by
    rw [List.nodup_cons] at hn
    rw [tkL_cons, tkL_cons]
    by_cases e : a = c
    · subst e
      rw [hq, tkL_same hn.1]
      simp only [setT, if_true]
      exact .here _
    · have hm : c ∈ l := by rcases List.mem_cons.1 h with h | h; exact absurd h.symm e; exact h
      have ih := tkL_upd (q' := q') hq hn.2 hm
      have e1 : setT tk c q' a = tk a := by unfold setT; rw [if_neg e]
      rw [e1]
      cases tk a with
      | none => exact ih
      | some x => exact .there ih
theorem tkL_new {c q' : Nat} {tk : Nat → Option Nat} (hq : tk c = none) : ∀ {l : List Nat}, l.Nodup → c ∈ l → (tkL l (setT tk c q')).Perm ((q', Ob.tok) :: tkL l tk)
  | [], _, h => by cases h
  | a :: l, hn, h => by
    rw [List.nodup_cons] at hn
    rw [tkL_cons, tkL_cons]
    by_cases e : a = c
    · subst e
      rw [hq, tkL_same hn.1]
      simp only [setT, if_true]
      exact .refl _
    · have hm : c ∈ l := by rcases List.mem_cons.1 h with h | h; exact absurd h.symm e; exact h
      have ih := tkL_new (q' := q') hq hn.2 hm
      have e1 : setT tk c q' a = tk a := by unfold setT; rw [if_neg e]
      rw [e1]
      cases tk a with
      | none => exact ih
      | some x => exact (ih.cons _).trans (.swap _ _ _)
/-- a row of rows of ints, each with its token -/
def rowT (tk : Nat → Option Nat) (bk : Nat → List Int) (c : Nat) : AV := match tk c with | none => .nilS | some q => .sl 1 (some q) (ints (bk c))
def setB (bk : Nat → List Int) (c : Nat) (s : Int) : Nat → List Int := fun j => if j = c then bk j ++ [s] else bk j
/-! ### Lost -/
def bkt : List Int → List Int → Int → List Int
  | d :: D, s :: S, c => if d = c then s :: bkt D S c else bkt D S c
  | _, _, _ => []
def lost (l : Lst) (cells : List Cel) (r : Rst) : List (List Int) × Int :=
  if (agrees l cells r.signs).2 ≠ 0 then ([], (agrees l cells r.signs).2)
  else if (agrees l cells r.signs).1 = r.cells then ((List.range cells.length).map fun (c : Nat) => bkt r.cells r.signs c, 0) else ([], 71)
def encLL (x : List (List Int) × Int) : AV := .tup [.sl 1 none (x.1.map encL), .int .i64 x.2]
theorem divS_bd : ∀ (cs : List Cel) (l : List Int) (k : Int), ∀ d ∈ divS cs l k, k ≤ d ∧ d < k + cs.length
  | [], l, k, d, h => by cases h
  | c :: cs, l, k, d, h => by
    rw [divS, List.mem_append] at h
    simp only [List.length_cons]
    rcases h with h | h
    · have := List.eq_of_mem_replicate h; omega
    · have := divS_bd cs _ _ d h; omega
theorem agrees_ok {l : Lst} {cells : List Cel} {line : List Int} (h : (agrees l cells line).2 = 0) : checkErr1 l cells line = 0 ∧ divide cells line = some (agrees l cells line).1 := by
  unfold agrees at h ⊢
  split at h
  · rename_i h1; exact absurd h h1
  · rename_i h1
    rw [if_neg h1]
    refine ⟨by simpa using h1, ?_⟩
    cases hd : divide cells line with
    | none => rw [hd] at h; cases h
    | some d => rfl
theorem agrees_len (l : Lst) (cells : List Cel) (line : List Int) : (agrees l cells line).1.length ≤ line.length := by
  unfold agrees
  split
  · simp
  · split
    · simp
    · rename_i d h; have := divide_len h; simp only; omega
theorem bkt_drop {D S : List Int} {i : Nat} {d s : Int} (c : Int) (hd : D[i]? = some d) (hs : S[i]? = some s) : bkt (D.drop i) (S.drop i) c = if d = c then s :: bkt (D.drop (i + 1)) (S.drop (i + 1)) c else bkt (D.drop (i + 1)) (S.drop (i + 1)) c := by
  rw [drop_cons hd, drop_cons hs, bkt]
theorem bkt_length : ∀ (D S : List Int) (c : Int), (bkt D S c).length ≤ S.length
  | [], S, c => by simp [bkt]
  | _ :: _, [], c => by simp [bkt]
  | d :: D, s :: S, c => by
    have := bkt_length D S c
    rw [bkt]
    split <;> simp only [List.length_cons] <;> omega
/-- where the rows stand in the walk -/
structure LI (n : Nat) (D S : List Int) (i : Nat) (tk : Nat → Option Nat) (bk : Nat → List Int) : Prop where
  eq : ∀ c, c < n → bkt D S c = bk c ++ bkt (D.drop i) (S.drop i) c
  nil : ∀ c, tk c = none → bk c = []
theorem LI.step {n : Nat} {D S : List Int} {i : Nat} {tk : Nat → Option Nat} {bk : Nat → List Int} {d s : Int} {q : Nat} (h : LI n D S i tk bk) (hd : D[i]? = some d) (hs : S[i]? = some s) (h0 : 0 ≤ d) : LI n D S (i + 1) (setT tk d.toNat q) (setB bk d.toNat s) := by
  refine ⟨fun c hc => ?_, fun c hc => ?_⟩
  · rw [h.eq c hc, bkt_drop c hd hs]
    unfold setB
    by_cases e : c = d.toNat
    · rw [if_pos (show d = (c : Int) by omega), if_pos e, List.append_assoc]; rfl
    · rw [if_neg (show ¬ d = (c : Int) by omega), if_neg e]
  · unfold setT at hc
    split at hc
    · cases hc
    · rename_i e
      unfold setB
      rw [if_neg e]
      exact h.nil c hc
theorem rowT_set {n c q : Nat} {tk : Nat → Option Nat} {bk : Nat → List Int} {s : Int} {v : AV} (hv : v = .sl 1 (some q) (ints (bk c ++ [s]))) : (rowsF n fun j => if j = c then v else rowT tk bk j) = rowsF n (rowT (setT tk c q) (setB bk c s)) := by
  refine rowsF_congr fun j _ => ?_
  unfold rowT setT setB
  by_cases e : j = c
  · rw [if_pos e, if_pos e, if_pos e, hv, e]
  · rw [if_neg e, if_neg e, if_neg e]
theorem rowT_le {n : Nat} {tk : Nat → Option Nat} {bk : Nat → List Int} {g : Nat → List Int} (h : ∀ c, c < n → bk c = g c) (hn : ∀ c, tk c = none → bk c = []) : VssLe ((List.range n).map fun c => [rowT tk bk c]) (((List.range n).map g).map encL) := by
  have key : ∀ l : List Nat, (∀ c ∈ l, c < n) → VssLe (l.map fun c => [rowT tk bk c]) ((l.map g).map encL) := by
    intro l
    induction l with
    | nil => intro _; exact .nil
    | cons c l ih =>
      intro hh
      refine .cons (.cons ?_ .nil) (ih fun d hd => hh d (by simp [hd]))
      rw [← h c (hh c (by simp))]
      unfold rowT
      cases ht : tk c with
      | none => rw [hn c ht]; exact VLe.nil (by decide)
      | some q => exact VLe.sl
  exact key _ fun c hc => List.mem_range.1 hc
theorem agrees_bd {cells : List Cel} {line D : List Int} (h : divide cells line = some D) : ∀ d ∈ D, 0 ≤ d ∧ d < cells.length := by
  intro d hdm
  unfold divide at h
  split at h
  · injection h with h
    subst h
    have := divS_bd cells line 0 d hdm
    omega
  · cases h
def c42 : Cfg := ⟨[0, 1, 2, 3, 5, 6, 7, 8, 9, 10, 11, 12, 22, 28, 32, 33, 34, 35], [], [], [], [(10, [0, 1, 2, 3, 4, 5, 6, 7, 8, 9, 10, 11, 12, 13, 14], [])], []⟩
def c43 : Cfg := ⟨[0, 1, 2, 3, 5, 6, 7, 8, 9, 10, 11, 21, 27, 34], [], [], [], [(10, [0, 1, 2, 3, 4, 5, 6, 7, 8, 9, 10, 11, 12, 13, 14, 15, 16, 17, 18, 19, 20], [])], []⟩
theorem wallLost (l : Lst) (cells : List Cel) (w : Rst) (hl : LstFit l) (hc : CelsFit cells) (hr : RstFit w) :
    QCall Try.prog 42 [.agg (encLst l), .sl 3 none (cells.map encCel), .agg (encRst w)] [] (encLL (lost l cells w)) := by
  obtain ⟨A, hA⟩ : ∃ A, A = agrees l cells w.signs := ⟨_, rfl⟩
  have hAl : A.1.length ≤ LMAX := by rw [hA]; exact Nat.le_trans (agrees_len l cells w.signs) hr.signs
  have hag := wallAgrees l cells w.signs hl hc hr.signs
  rw [← hA] at hag
  unfold LMAX at hAl
  by_cases hgood : A.2 = 0 ∧ A.1 = w.cells
  · have hag2 := agrees_ok (hA ▸ hgood.1)
    rw [← hA] at hag2
    have hbd := agrees_bd hag2.2
    have hcl : A.1.length = w.signs.length := divide_len hag2.2
    obtain ⟨N, hN⟩ : ∃ N, N = cells.length := ⟨_, rfl⟩
    have hNl := hc.len
    have hlost : lost l cells w = ((List.range N).map fun (c : Nat) => bkt w.cells w.signs c, 0) := by
      unfold lost
      rw [← hA, if_neg (by simp [hgood.1]), if_pos hgood.2, hN]
    refine QCall.of (ACalls.frz (R := fun v h => ∃ b tk bk h2, v = .tup [.osl b 0 N 1, .int .i64 0] ∧ Rem b (.vec (rowsF N (rowT tk bk))) h h2 ∧ (∀ c, c < N → bk c = bkt w.cells w.signs c) ∧ ∀ c, tk c = none → bk c = []) ?_ ?_)
    rotate_left
    · rintro v h1 ⟨b, tk, bk, h2, rfl, hrem, hf, hn⟩
      refine ⟨b, _, h2, h2, .tup [.sl 1 none ((List.range N).map fun c => [rowT tk bk c]), .int .i64 0], hrem, FzH.refl _, .tup (.cons (fzF rfl) (.cons (.refl _) .nil)), ?_⟩
      rw [hlost]
      exact VLe.tup (.cons (VLe.els (rowT_le hf hn)) (VsLe.refl _))
    refine fcalls (F := Try.f42) c42 rfl rfl rfl mixed rfl fun X => ?_
    conv => whnf
    repeat (refine QCall.k0 (hag) ?_; conv => whnf)
    refine cF (by simp [hgood.1]) ?_
    conv => whnf
    repeat (refine QCall.k0 (equalI A.1 w.cells (by unfold LMAX; omega) hr.cells) ?_; conv => whnf)
    refine cF (by simp [hgood.2]) ?_
    conv => whnf
    repeat ((refine ⟨⟨rfl, by rw [List.length_map]; omega, by rw [List.length_map]; omega⟩, fun b => ?_⟩); conv => whnf)
    rw [List.length_map, ← hN, show ((N : Nat) : Int).toNat = N from by omega, repC_F]
    obtain ⟨hcc, hl60⟩ := check1_ok hag2.1 hc
    refine tloop rfl mixed [5, 10, 32, 33, 34] [] (fun m r h => ∃ (i : Nat) (tk : Nat → Option Nat) (bk : Nat → List Int), r = [(5, [], .iptr (encRst w)), (10, [], .osl b 0 N 1), (32, [], .sl 1 none (ints A.1)), (33, [], .int .i64 (ints A.1).length), (34, [], .int .i64 i)] ∧ h = [(b, .vec (rowsF N (rowT tk bk)))] ++ tkL (List.range N) tk ∧ m = A.1.length - i ∧ i ≤ A.1.length ∧ LI N A.1 w.signs i tk bk) ?_ ?_
    · conv => whnf
      refine ⟨_, _, Turn.refl _ _, _, 0, fun _ => none, fun _ => [], rfl, ?_, rfl, by omega, ⟨fun c _ => rfl, fun c _ => rfl⟩⟩
      rw [tkL_none]
      rfl
    · rintro m rr hh ⟨i, tk, bk, rfl, rfl, rfl, hi, hli⟩
      conv => whnf
      refine ⟨fun hf => ?_, fun hf => ?_⟩ <;> simp at hf
      · obtain ⟨d, hd⟩ := get_lt hf
        obtain ⟨hd0, hd1⟩ := hbd d (List.mem_of_getElem? hd)
        obtain ⟨s, hs⟩ := get_lt (show i < w.signs.length by omega)
        have hx := hd
        have hin : d.toNat < N := by omega
        have hbl : (bk d.toNat).length ≤ 60 := by
          have h1 := congrArg List.length (hli.eq d.toNat hin)
          rw [List.length_append] at h1
          have := bkt_length A.1 w.signs d.toNat
          omega
        cases ht : tk d.toNat with
        | none =>
          have hbn := hli.nil _ ht
          conv => whnf
          repeat ((first | refine ⟨gP_of ⟨by omega, by omega⟩, ?_⟩ | refine ix (by assumption) ?_ | (refine ixog ?_ ?_; (focus (conv => whnf; skip)); (focus (first | (show 0 ≤ _ ∧ _ < _; omega) | (intro hq; show 0 ≤ _ ∧ _ < _; omega))))
                         | (refine ldoF .nilS (.head _) rfl (by omega) (by simp only [Nat.zero_add, Nat.mul_one]; unfold rowT; rw [ht]) ?_) | (refine ⟨(by show 1 ≤ 4294967296; omega), fun q' => ?_⟩)
                         | (refine stoF ?_ (.there (.here _)) ?_; (focus (first | omega | (simp <;> omega)))) | refine And.intro (by show drawOK (opsAt Try.f42 _) _ = true; decide +kernel) ?_); conv => whnf)
          refine ⟨_, _, Turn.perm ((List.Perm.cons _ (tkL_new (q' := q') ht List.nodup_range (List.mem_range.2 hin))).trans (.swap _ _ _)), _, by omega, i + 1, setT tk d.toNat q', setB bk d.toNat s, rfl, ?_, rfl, by omega, hli.step hd hs hd0⟩
          rw [Nat.zero_add, Nat.mul_one, rowT_set (q := q') (s := s) (by rw [hbn]; rfl)]
          rfl
        | some q =>
          conv => whnf
          repeat ((first | refine ⟨gP_of ⟨by omega, by omega⟩, ?_⟩ | refine ix (by assumption) ?_ | (refine ixog ?_ ?_; (focus (conv => whnf; skip)); (focus (first | (show 0 ≤ _ ∧ _ < _; omega) | (intro hq; show 0 ≤ _ ∧ _ < _; omega))))
                         | (refine ldoF (.sl 1 (some q) (ints (bk d.toNat))) (.head _) rfl (by omega) (by simp only [Nat.zero_add, Nat.mul_one]; unfold rowT; rw [ht]) ?_) | (refine ⟨(by rw [List.length_append, ints_length]; show _ + 1 ≤ 4294967296; omega), fun q' => ⟨_, .there (tkL_upd (q' := q') ht List.nodup_range (List.mem_range.2 hin)), ?_⟩⟩)
                         | (refine stoF ?_ (.here _) ?_; (focus (first | omega | (simp <;> omega)))) | refine And.intro (by show drawOK (opsAt Try.f42 _) _ = true; decide +kernel) ?_); conv => whnf)
          refine ⟨_, _, Turn.refl _ _, _, by omega, i + 1, setT tk d.toNat q', setB bk d.toNat s, rfl, ?_, rfl, by omega, hli.step hd hs hd0⟩
          rw [Nat.zero_add, Nat.mul_one, rowT_set (q := q') (s := s) (by simp [ints])]
          rfl
      · conv => whnf
        skip
        refine ⟨b, tk, bk, _, rfl, .here _, fun c hc => ?_, hli.nil⟩
        have := hli.eq c hc
        rw [drop_nil (l := A.1) (by omega), show bkt [] (w.signs.drop i) c = [] from by simp [bkt], List.append_nil] at this
        rw [← hgood.2, this]
  · refine QCall.of (fcalls (F := Try.f42) c42 rfl rfl rfl mixed rfl fun X => ?_)
    conv => whnf
    repeat (refine QCall.k0 (hag) ?_; conv => whnf)
    refine ⟨fun hd => ?_, fun hd => ?_⟩
    · have hd : A.2 ≠ 0 := by simpa using hd
      conv => whnf
      unfold lost
      rw [← hA, if_pos hd]
      exact nilTup (by decide)
    have hd : A.2 = 0 := by simpa using hd
    conv => whnf
    repeat (refine QCall.k0 (equalI A.1 w.cells (by unfold LMAX; omega) hr.cells) ?_; conv => whnf)
    refine cT (by simpa using fun h => hgood ⟨hd, h⟩) ?_
    conv => whnf
    unfold lost
    rw [← hA, if_neg (by simp [hd]), if_neg (fun h => hgood ⟨hd, h⟩)]
    exact nilTup (by decide)
theorem refLost (l : Lst) (cells : List Cel) (w : Rst) (hl : LstFit l) (hc : CelsFit cells) (hr : RstFit w) :
    QCall Try.prog 43 [.agg (encLst l), .sl 3 none (cells.map encCel), .agg (encRst w)] [] (encLL (lost l cells w)) := by
  obtain ⟨A, hA⟩ : ∃ A, A = agrees l cells w.signs := ⟨_, rfl⟩
  have hAl : A.1.length ≤ LMAX := by rw [hA]; exact Nat.le_trans (agrees_len l cells w.signs) hr.signs
  have hag := refAgrees l cells w.signs hl hc hr.signs
  rw [← hA] at hag
  unfold LMAX at hAl
  by_cases hgood : A.2 = 0 ∧ A.1 = w.cells
  · have hag2 := agrees_ok (hA ▸ hgood.1)
    rw [← hA] at hag2
    have hbd := agrees_bd hag2.2
    have hcl : A.1.length = w.signs.length := divide_len hag2.2
    obtain ⟨N, hN⟩ : ∃ N, N = cells.length := ⟨_, rfl⟩
    have hNl := hc.len
    have hlost : lost l cells w = ((List.range N).map fun (c : Nat) => bkt w.cells w.signs c, 0) := by
      unfold lost
      rw [← hA, if_neg (by simp [hgood.1]), if_pos hgood.2, hN]
    refine QCall.of (ACalls.frz (R := fun v h => ∃ b tk bk h2, v = .tup [.osl b 0 N 1, .int .i64 0] ∧ Rem b (.vec (rowsF N (rowT tk bk))) h h2 ∧ (∀ c, c < N → bk c = bkt w.cells w.signs c) ∧ ∀ c, tk c = none → bk c = []) ?_ ?_)
    rotate_left
    · rintro v h1 ⟨b, tk, bk, h2, rfl, hrem, hf, hn⟩
      refine ⟨b, _, h2, h2, .tup [.sl 1 none ((List.range N).map fun c => [rowT tk bk c]), .int .i64 0], hrem, FzH.refl _, .tup (.cons (fzF rfl) (.cons (.refl _) .nil)), ?_⟩
      rw [hlost]
      exact VLe.tup (.cons (VLe.els (rowT_le hf hn)) (VsLe.refl _))
    refine fcalls (F := Try.f43) c43 rfl rfl rfl mixed rfl fun X => ?_
    conv => whnf
    repeat (refine QCall.k0 (hag) ?_; conv => whnf)
    refine cF (by simp [hgood.1]) ?_
    conv => whnf
    repeat (refine QCall.k0 (refSameInts A.1 w.cells (by unfold LMAX; omega) hr.cells) ?_; conv => whnf)
    refine cF (by simp [hgood.2]) ?_
    conv => whnf
    repeat ((refine ⟨⟨rfl, by rw [List.length_map]; omega, by rw [List.length_map]; omega⟩, fun b => ?_⟩); conv => whnf)
    rw [List.length_map, ← hN, show ((N : Nat) : Int).toNat = N from by omega, repC_F]
    obtain ⟨hcc, hl60⟩ := check1_ok hag2.1 hc
    refine tloop rfl mixed [5, 8, 10, 11] [] (fun m r h => ∃ (i : Nat) (tk : Nat → Option Nat) (bk : Nat → List Int), r = [(5, [], .iptr (encRst w)), (8, [], .sl 1 none (ints A.1)), (10, [], .osl b 0 N 1), (11, [], .int .i64 i)] ∧ h = [(b, .vec (rowsF N (rowT tk bk)))] ++ tkL (List.range N) tk ∧ m = A.1.length - i ∧ i ≤ A.1.length ∧ LI N A.1 w.signs i tk bk) ?_ ?_
    · conv => whnf
      refine ⟨_, _, Turn.refl _ _, _, 0, fun _ => none, fun _ => [], rfl, ?_, rfl, by omega, ⟨fun c _ => rfl, fun c _ => rfl⟩⟩
      rw [tkL_none]
      rfl
    · rintro m rr hh ⟨i, tk, bk, rfl, rfl, rfl, hi, hli⟩
      conv => whnf
      refine ⟨fun hf => ?_, fun hf => ?_⟩ <;> simp at hf
      · obtain ⟨d, hd⟩ := get_lt hf
        obtain ⟨hd0, hd1⟩ := hbd d (List.mem_of_getElem? hd)
        obtain ⟨s, hs⟩ := get_lt (show i < w.signs.length by omega)
        have hx := hd
        have hin : d.toNat < N := by omega
        have hbl : (bk d.toNat).length ≤ 60 := by
          have h1 := congrArg List.length (hli.eq d.toNat hin)
          rw [List.length_append] at h1
          have := bkt_length A.1 w.signs d.toNat
          omega
        cases ht : tk d.toNat with
        | none =>
          have hbn := hli.nil _ ht
          conv => whnf
          repeat ((first | refine ⟨gP_of ⟨by omega, by omega⟩, ?_⟩ | refine ix (by assumption) ?_ | (refine ixog ?_ ?_; (focus (conv => whnf; skip)); (focus (first | (show 0 ≤ _ ∧ _ < _; omega) | (intro hq; show 0 ≤ _ ∧ _ < _; omega))))
                         | (refine ldoF .nilS (.head _) rfl (by omega) (by simp only [Nat.zero_add, Nat.mul_one]; unfold rowT; rw [ht]) ?_) | (refine ⟨(by show 1 ≤ 4294967296; omega), fun q' => ?_⟩)
                         | (refine stoF ?_ (.there (.here _)) ?_; (focus (first | omega | (simp <;> omega)))) | refine And.intro (by show drawOK (opsAt Try.f43 _) _ = true; decide +kernel) ?_); conv => whnf)
          refine ⟨_, _, Turn.perm ((List.Perm.cons _ (tkL_new (q' := q') ht List.nodup_range (List.mem_range.2 hin))).trans (.swap _ _ _)), _, by omega, i + 1, setT tk d.toNat q', setB bk d.toNat s, rfl, ?_, rfl, by omega, hli.step hd hs hd0⟩
          rw [Nat.zero_add, Nat.mul_one, rowT_set (q := q') (s := s) (by rw [hbn]; rfl)]
          rfl
        | some q =>
          conv => whnf
          repeat ((first | refine ⟨gP_of ⟨by omega, by omega⟩, ?_⟩ | refine ix (by assumption) ?_ | (refine ixog ?_ ?_; (focus (conv => whnf; skip)); (focus (first | (show 0 ≤ _ ∧ _ < _; omega) | (intro hq; show 0 ≤ _ ∧ _ < _; omega))))
                         | (refine ldoF (.sl 1 (some q) (ints (bk d.toNat))) (.head _) rfl (by omega) (by simp only [Nat.zero_add, Nat.mul_one]; unfold rowT; rw [ht]) ?_) | (refine ⟨(by rw [List.length_append, ints_length]; show _ + 1 ≤ 4294967296; omega), fun q' => ⟨_, .there (tkL_upd (q' := q') ht List.nodup_range (List.mem_range.2 hin)), ?_⟩⟩)
                         | (refine stoF ?_ (.here _) ?_; (focus (first | omega | (simp <;> omega)))) | refine And.intro (by show drawOK (opsAt Try.f43 _) _ = true; decide +kernel) ?_); conv => whnf)
          refine ⟨_, _, Turn.refl _ _, _, by omega, i + 1, setT tk d.toNat q', setB bk d.toNat s, rfl, ?_, rfl, by omega, hli.step hd hs hd0⟩
          rw [Nat.zero_add, Nat.mul_one, rowT_set (q := q') (s := s) (by simp [ints])]
          rfl
      · conv => whnf
        skip
        refine ⟨b, tk, bk, _, rfl, .here _, fun c hc => ?_, hli.nil⟩
        have := hli.eq c hc
        rw [drop_nil (l := A.1) (by omega), show bkt [] (w.signs.drop i) c = [] from by simp [bkt], List.append_nil] at this
        rw [← hgood.2, this]
  · refine QCall.of (fcalls (F := Try.f43) c43 rfl rfl rfl mixed rfl fun X => ?_)
    conv => whnf
    repeat (refine QCall.k0 (hag) ?_; conv => whnf)
    refine ⟨fun hd => ?_, fun hd => ?_⟩
    · have hd : A.2 ≠ 0 := by simpa using hd
      conv => whnf
      unfold lost
      rw [← hA, if_pos hd]
      exact nilTup (by decide)
    have hd : A.2 = 0 := by simpa using hd
    conv => whnf
    repeat (refine QCall.k0 (refSameInts A.1 w.cells (by unfold LMAX; omega) hr.cells) ?_; conv => whnf)
    refine cT (by simpa using fun h => hgood ⟨hd, h⟩) ?_
    conv => whnf
    unfold lost
    rw [← hA, if_neg (by simp [hd]), if_neg (fun h => hgood ⟨hd, h⟩)]
    exact nilTup (by decide)
end Go.Abs.Wall
set_option maxRecDepth 100000
set_option linter.unusedVariables false
namespace Go.Abs.Wall
open Go Go.Abs Go.Proofs
/-! ### theory: valid cells -/
theorem good_iff {l : List Int} {n : Int} {i : Nat} (h : i < l.length) : good l n i = true ↔ (0 ≤ l[i] ∧ l[i] < n ∧ ∀ j (hj : j + 1 = i), l[j]'(by omega) < l[i]) := by
  unfold good
  rw [List.getElem?_eq_getElem h]
  simp only [Bool.and_eq_true, decide_eq_true_eq]
  cases i with
  | zero => simp; omega
  | succ j =>
    have hj : j < l.length := by omega
    simp only [List.getElem?_eq_getElem hj, decide_eq_true_eq]
    constructor
    · rintro ⟨⟨a, b⟩, c⟩
      refine ⟨a, by omega, fun j' hj' => ?_⟩
      have e : j' = j := by omega
      subst e
      exact c
    · rintro ⟨a, b, c⟩; exact ⟨⟨a, by omega⟩, c j rfl⟩
theorem rises_iff {l : List Int} {n : Int} : rises l n = true ↔ ((∀ x ∈ l, 0 ≤ x ∧ x < n) ∧ l.Pairwise (· < ·)) := by
  unfold rises
  rw [List.all_eq_true]
  constructor
  · intro h
    have hg : ∀ i (hi : i < l.length), 0 ≤ l[i] ∧ l[i] < n ∧ ∀ j (hj : j + 1 = i), l[j]'(by omega) < l[i] := fun i hi => (good_iff hi).1 (h i (List.mem_range.2 hi))
    refine ⟨fun x hx => ?_, ?_⟩
    · obtain ⟨i, hi, rfl⟩ := List.mem_iff_getElem.1 hx
      exact ⟨(hg i hi).1, (hg i hi).2.1⟩
    · rw [List.pairwise_iff_getElem]
      intro i j hi hj hij
      have key : ∀ d (hd : i + d + 1 < l.length), l[i] < l[i + d + 1] := by
        intro d
        induction d with
        | zero => intro hd; exact (hg (i + 1) hd).2.2 i rfl
        | succ d ih => intro hd; have h1 := ih (by omega); have h2 := (hg (i + (d + 1) + 1) hd).2.2 (i + d + 1) (by omega); omega
      have := key (j - i - 1) (by omega)
      simp only [show i + (j - i - 1) + 1 = j from by omega] at this
      exact this
  · rintro ⟨h1, h2⟩ i hi
    have hi := List.mem_range.1 hi
    rw [good_iff hi]
    have := h1 l[i] (List.getElem_mem hi)
    refine ⟨this.1, this.2, fun j hj => ?_⟩
    rw [List.pairwise_iff_getElem] at h2
    exact h2 j i (by omega) hi (by omega)
theorem rises_filter {l : List Int} {n : Int} (p : Int → Bool) (h : rises l n = true) : rises (l.filter p) n = true := by
  rw [rises_iff] at h ⊢
  exact ⟨fun x hx => h.1 x (List.mem_filter.1 hx).1, h.2.filter p⟩
theorem rises_nil (n : Int) : rises [] n = true := rfl
/-- a cell is valid -/
structure CelV (n : Int) (c : Cel) : Prop where
  mn : 0 ≤ c.mn
  mx : c.mn ≤ c.mx
  gap : c.mx ≤ 9
  up : rises c.signs n = true
  none : n = 0 → c.mx ≤ 0
theorem celBad_iff {n : Int} {c : Cel} : celBad n c = false ↔ CelV n c := by
  unfold celBad
  simp only [Bool.or_eq_false_iff, decide_eq_false_iff_not, Bool.not_eq_false', Bool.and_eq_false_iff]
  constructor
  · rintro ⟨⟨⟨⟨a, b⟩, c⟩, d⟩, e⟩; exact ⟨by omega, by omega, by omega, d, fun h => by omega⟩
  · intro h
    have h1 := h.mn; have h2 := h.mx; have h3 := h.gap
    refine ⟨⟨⟨⟨by omega, by omega⟩, by omega⟩, h.up⟩, ?_⟩
    by_cases hn : n = 0
    · right; have := h.none hn; omega
    · left; exact hn
theorem right_iff {n : Int} {cells : List Cel} : right n cells = true ↔ (cells.length ≤ 40 ∧ (∀ c ∈ cells, CelV n c) ∧ (cells.map (·.mx)).sum ≤ 60) := by
  have key : ∀ (l : List Cel) (s : Int), rightGo n cells l s = true ↔ (cells.length ≤ 40 ∧ (∀ c ∈ l, CelV n c) ∧ s + (l.map (·.mx)).sum ≤ 60) := by
    intro l
    induction l with
    | nil => intro s; simp [rightGo]
    | cons c l ih =>
      intro s
      unfold rightGo
      cases hb : celBad n c with
      | true =>
        simp only [if_true, List.mem_cons, forall_eq_or_imp]
        constructor
        · intro h; cases h
        · rintro ⟨_, ⟨h, _⟩, _⟩; rw [celBad_iff.2 h] at hb; cases hb
      | false =>
        have hv := celBad_iff.1 hb
        simp only [Bool.false_eq_true, if_false]
        rw [ih]
        simp only [List.mem_cons, forall_eq_or_imp, List.map_cons, List.sum_cons]
        constructor
        · rintro ⟨a, b, c⟩; exact ⟨a, ⟨hv, b⟩, by omega⟩
        · rintro ⟨a, ⟨_, b⟩, c⟩; exact ⟨a, b, by omega⟩
  unfold right
  rw [key]
  simp
/-! ### theory: cells that allow more -/
/-- what one cell may have the other one may -/
structure CelLe (c d : Cel) : Prop where
  mn : d.mn ≤ c.mn
  mx : c.mx ≤ d.mx
  al : 0 < c.mx → ∀ s, allows c s = true → allows d s = true
theorem St.mono {c d : Cel} {ok ok' : List Int → Bool} {l : List Int} {m : Nat} (h : CelLe c d) (ho : ∀ w, ok w = true → ok' w = true) (hs : St c ok 0 l m) : St d ok' 0 l m := by
  have h1 := h.mn; have h2 := h.mx
  obtain ⟨a, b, e, f, g⟩ := hs
  refine ⟨by omega, by omega, e, fun s hs => ?_, ho _ g⟩
  cases m with
  | zero => simp at hs
  | succ m => exact h.al (by omega) s (f s hs)
theorem fitB_mono : ∀ {cs ds : List Cel}, cs.length = ds.length → (∀ (i : Nat) c d, cs[i]? = some c → ds[i]? = some d → CelLe c d) → ∀ w, fitB cs w = true → fitB ds w = true
  | [], [], _, _, w, h => h
  | [], _ :: _, hl, _, w, h => by simp at hl
  | _ :: _, [], hl, _, w, h => by simp at hl
  | c :: cs, d :: ds, hl, hh, w, h => by
    have ih := fitB_mono (cs := cs) (ds := ds) (by simpa using hl) fun i c d h1 h2 => hh (i + 1) c d (by simpa using h1) (by simpa using h2)
    rw [fitB_cons] at h ⊢
    obtain ⟨m, hm⟩ := h
    exact ⟨m, hm.mono (hh 0 c d rfl rfl) ih⟩
/-! ### theory: what two lists of cells have in common -/
theorem allows_nil {c : Cel} {s : Int} (h : c.signs = []) : allows c s = true := by unfold allows; simp [h]
theorem allows_iff {c : Cel} {s : Int} : allows c s = true ↔ (c.signs = [] ∨ s ∈ c.signs) := by unfold allows; simp
theorem meetCel_ok {n : Int} {x y : Cel} (hx : CelV n x) (hy : CelV n y) (h : (meetCel x y).2 = true) : CelV n (meetCel x y).1 ∧ CelLe (meetCel x y).1 x ∧ CelLe (meetCel x y).1 y := by
  have a1 := hx.mn; have a2 := hx.mx; have a3 := hx.gap; have a5 := hx.none
  have b1 := hy.mn; have b2 := hy.mx; have b3 := hy.gap; have b5 := hy.none
  unfold meetCel at h ⊢
  split at h
  · cases h
  rename_i h0
  rw [if_neg h0]
  split at h
  · rename_i h1
    rw [if_pos h1]
    exact ⟨⟨by simp only; omega, by simp only; omega, by simp only; omega, hy.up, fun hn => by have := a5 hn; simp only; omega⟩, ⟨by simp only; omega, by simp only; omega, fun _ s _ => allows_nil h1⟩, ⟨by simp only; omega, by simp only; omega, fun _ s hs => hs⟩⟩
  rename_i h1
  rw [if_neg h1]
  split at h
  · rename_i h2
    rw [if_pos h2]
    exact ⟨⟨by simp only; omega, by simp only; omega, by simp only; omega, hx.up, fun hn => by have := a5 hn; simp only; omega⟩, ⟨by simp only; omega, by simp only; omega, fun _ s hs => hs⟩, ⟨by simp only; omega, by simp only; omega, fun _ s _ => allows_nil h2⟩⟩
  rename_i h2
  rw [if_neg h2]
  split at h
  · rename_i h3
    rw [if_pos h3]
    have h := of_decide_eq_true h
    exact ⟨⟨by simp only; omega, by simp only; omega, by simp only; omega, hx.up, fun _ => by simp only; omega⟩, ⟨by simp only; omega, by simp only; omega, fun hp => by simp only at hp; omega⟩, ⟨by simp only; omega, by simp only; omega, fun hp => by simp only at hp; omega⟩⟩
  · rename_i h3
    rw [if_neg h3]
    have hm : ∀ s, allows (⟨max x.mn y.mn, min x.mx y.mx, x.signs.filter (fun s => y.signs.contains s)⟩ : Cel) s = true → s ∈ x.signs ∧ s ∈ y.signs := by
      intro s hs
      rcases allows_iff.1 hs with h | h
      · exact absurd h h3
      · have := List.mem_filter.1 h
        exact ⟨this.1, List.contains_iff_mem.1 this.2⟩
    exact ⟨⟨by simp only; omega, by simp only; omega, by simp only; omega, rises_filter _ hx.up, fun hn => by have := a5 hn; simp only; omega⟩, ⟨by simp only; omega, by simp only; omega, fun _ s hs => allows_iff.2 (.inr (hm s hs).1)⟩, ⟨by simp only; omega, by simp only; omega, fun _ s hs => allows_iff.2 (.inr (hm s hs).2)⟩⟩
theorem meetGo_ok {n : Int} : ∀ {a b acc c : List Cel}, a.length = b.length → (∀ x ∈ a, CelV n x) → (∀ x ∈ b, CelV n x) → meetGo a b acc = some c → ∃ m, c = acc ++ m ∧ m.length = a.length ∧
    ∀ (i : Nat) x y z, a[i]? = some x → b[i]? = some y → m[i]? = some z → CelV n z ∧ CelLe z x ∧ CelLe z y
  | [], [], acc, c, _, _, _, h => by
    simp [meetGo] at h; subst h
    exact ⟨[], by simp, rfl, fun i x y z h => by cases h⟩
  | [], _ :: _, acc, c, hl, _, _, h => by simp at hl
  | _ :: _, [], acc, c, hl, _, _, h => by simp at hl
  | x :: a, y :: b, acc, c, hl, ha, hb, h => by
    rw [meetGo] at h
    split at h
    · rename_i hok
      obtain ⟨m, rfl, h2, h3⟩ := meetGo_ok (by simpa using hl) (fun z hz => ha z (by simp [hz])) (fun z hz => hb z (by simp [hz])) h
      refine ⟨(meetCel x y).1 :: m, by simp, by simp [h2], fun i x' y' z' e1 e2 e3 => ?_⟩
      cases i with
      | zero => cases e1; cases e2; cases e3; exact meetCel_ok (ha _ (by simp)) (hb _ (by simp)) hok
      | succ i => exact h3 i x' y' z' (by simpa using e1) (by simpa using e2) (by simpa using e3)
    · cases h
theorem sum_le {a m : List Cel} (hl : m.length = a.length) (h : ∀ (i : Nat) x z, a[i]? = some x → m[i]? = some z → z.mx ≤ x.mx) : (m.map (·.mx)).sum ≤ (a.map (·.mx)).sum := by
  induction m generalizing a with
  | nil => cases a with
    | nil => simp
    | cons => simp at hl
  | cons z m ih => cases a with
    | nil => simp at hl
    | cons x a =>
      have h1 := ih (a := a) (by simpa using hl) fun i x z e1 e2 => h (i + 1) x z (by simpa using e1) (by simpa using e2)
      have h2 := h 0 x z rfl rfl
      simp only [List.map_cons, List.sum_cons]; omega
/-- Meet, where it is fine -/
theorem meetAll_ok {l : Lst} {a b m : List Cel} (h : meetAll l a b = (m, 0)) : checkErr l a = 0 ∧ checkErr l b = 0 ∧ checkErr l m = 0 ∧ (∀ w, fitB m w = true → fitB a w = true) ∧ ∀ w, fitB m w = true → fitB b w = true := by
  unfold meetAll at h
  split at h
  · rename_i h1; exact absurd (Prod.mk.inj h).2 h1
  rename_i h1
  split at h
  · exact absurd (Prod.mk.inj h).2 (by decide)
  rename_i h2
  split at h
  · exact absurd (Prod.mk.inj h).2 (by decide)
  rename_i h3
  split at h
  · exact absurd (Prod.mk.inj h).2 (by decide)
  rename_i cs hcs
  have hm := (Prod.mk.inj h).1
  subst hm
  have h1 : checkErr l a = 0 := by simpa using h1
  have h3 : a.length = b.length := by simpa using h3
  have hr2 : right l.signs.length b = true := by simpa using h2
  have hlst : lstErr l = 0 ∧ right l.signs.length a = true := by
    unfold checkErr at h1
    split at h1
    · rename_i h; exact absurd h1 h
    · rename_i h
      split at h1
      · rename_i h'; exact ⟨by simpa using h, h'⟩
      · cases h1
  have hra := right_iff.1 hlst.2
  have hrb := right_iff.1 hr2
  obtain ⟨m, e, hml, hm⟩ := meetGo_ok h3 hra.2.1 hrb.2.1 hcs
  simp only [List.nil_append] at e
  subst e
  have hget : ∀ (i : Nat) z, cs[i]? = some z → ∃ x y, a[i]? = some x ∧ b[i]? = some y ∧ CelV l.signs.length z ∧ CelLe z x ∧ CelLe z y := by
    intro i z hz
    have hi := (List.getElem?_eq_some_iff.1 hz).1
    obtain ⟨x, hx⟩ := get_lt (show i < a.length by omega)
    obtain ⟨y, hy⟩ := get_lt (show i < b.length by omega)
    exact ⟨x, y, hx, hy, hm i x y z hx hy hz⟩
  have hrm : right l.signs.length cs = true := by
    refine right_iff.2 ⟨by omega, fun c hc => ?_, ?_⟩
    · obtain ⟨i, hi⟩ := List.mem_iff_getElem?.1 hc
      obtain ⟨x, y, _, _, hv, _⟩ := hget i c hi
      exact hv
    · have := sum_le hml fun i x z hx hz => by
        obtain ⟨x', y, hx', hy, hv, h4, h5⟩ := hget i z hz
        rw [hx] at hx'; cases hx'
        exact h4.mx
      omega
  refine ⟨h1, ?_, ?_, fitB_mono (by omega) fun i z x hz hx => ?_, fitB_mono (by omega) fun i z y hz hy => ?_⟩
  · unfold checkErr; rw [if_neg (by simp [hlst.1]), if_pos hr2]
  · unfold checkErr; rw [if_neg (by simp [hlst.1]), if_pos hrm]
  · obtain ⟨x', y, hx', hy, hv, h4, h5⟩ := hget i z hz
    rw [hx] at hx'; cases hx'; exact h4
  · obtain ⟨x', y', hx', hy', hv, h4, h5⟩ := hget i z hz
    rw [hy] at hy'; cases hy'; exact h5
end Go.Abs.Wall
set_option maxRecDepth 100000
set_option linter.unusedVariables false
namespace Go.Abs.Wall
open Go Go.Abs Go.Proofs
/-! ### theory: changes -/
theorem differ_comm (a b : Int) : differ a b = differ b a := by
  unfold differ
  by_cases h : a = b
  · rw [if_pos h, if_pos h.symm]
  · rw [if_neg h, if_neg fun e => h e.symm]
theorem differ_zero {a b : Int} : differ a b = 0 ↔ a = b := by unfold differ; split <;> simp_all
theorem differ_tri (a b c : Int) : differ a b ≤ differ a c + differ c b := by
  have h1 := differ01 a c; have h2 := differ01 c b; have h3 := differ01 a b
  by_cases h : a = c
  · subst h; omega
  · have : differ a c = 1 := by unfold differ; rw [if_neg h]
    omega
theorem dist_comm : ∀ (l p : List Int), dist l p = dist p l
  | [], p => by rw [dist_nl, dist_nil]
  | a :: l, [] => by rw [dist_cn, dist_nl]; simp
  | a :: l, b :: p => by
    have h1 := dist_comm l p
    have h2 := dist_comm l (b :: p)
    have h3 := dist_comm (a :: l) p
    have h4 := differ_comm a b
    rw [dist_cc, dist_cc]
    omega
theorem dist_self : ∀ l : List Int, dist l l = 0
  | [] => rfl
  | a :: l => by
    have h1 := dist_self l
    have h2 : differ a a = 0 := differ_zero.2 rfl
    have h3 := dist_bd l (a :: l)
    have h4 := dist_bd (a :: l) l
    rw [dist_cc]
    omega
theorem dist_zero : ∀ {l p : List Int}, dist l p = 0 → l = p
  | [], p, h => by rw [dist_nl] at h; cases p with | nil => rfl | cons b p => simp only [List.length_cons] at h; omega
  | a :: l, [], h => by rw [dist_cn] at h; omega
  | a :: l, b :: p, h => by
    have h1 := dist_bd l p; have h2 := dist_bd l (b :: p); have h3 := dist_bd (a :: l) p
    have h4 := differ01 a b
    rw [dist_cc] at h
    have e1 : differ a b = 0 := by omega
    rw [differ_zero.1 e1, dist_zero (show dist l p = 0 by omega)]
theorem dist_len : ∀ (l p : List Int), (l.length : Int) - p.length ≤ dist l p ∧ (p.length : Int) - l.length ≤ dist l p
  | [], p => by rw [dist_nl]; simp only [List.length_nil]; omega
  | a :: l, [] => by rw [dist_cn]; simp only [List.length_nil, List.length_cons]; omega
  | a :: l, b :: p => by
    have h1 := dist_len l p; have h2 := dist_len l (b :: p); have h3 := dist_len (a :: l) p
    have h4 := differ01 a b
    rw [dist_cc]
    simp only [List.length_cons] at *
    omega
theorem dist_tri : ∀ (n : Nat) (a b c : List Int), a.length + b.length + c.length ≤ n → dist a b ≤ dist a c + dist c b
  | n, [], b, c, _ => by have := dist_len c b; rw [dist_nl, dist_nl]; omega
  | n, x :: a, [], c, _ => by have := dist_len (x :: a) c; rw [dist_nil, dist_nil]; omega
  | n, x :: a, y :: b, [], _ => by have := dist_bd (x :: a) (y :: b); rw [dist_nil, dist_nl]; omega
  | 0, x :: a, y :: b, z :: c, h => by simp only [List.length_cons] at h; omega
  | n + 1, x :: a, y :: b, z :: c, h => by
    simp only [List.length_cons] at h
    have i1 := dist_tri n a (y :: b) (z :: c) (by simp only [List.length_cons]; omega)
    have i2 := dist_tri n (x :: a) b (z :: c) (by simp only [List.length_cons]; omega)
    have i3 := dist_tri n (x :: a) (y :: b) c (by simp only [List.length_cons]; omega)
    have i4 := dist_tri n (x :: a) b c (by simp only [List.length_cons]; omega)
    have i5 := dist_tri n a (y :: b) c (by simp only [List.length_cons]; omega)
    have i6 := dist_tri n a b c (by omega)
    have d1 := differ_tri x y z
    have d2 := differ01 x z; have d3 := differ01 z y
    have e1 := dist_cc x y a b; have e2 := dist_cc x z a c; have e3 := dist_cc z y c b
    omega
theorem dist_drop1 (l : List Int) (b : Int) (p : List Int) : dist l (b :: p) ≤ 1 + dist l p := by
  cases l with
  | nil => rw [dist_nl, dist_nl]; simp only [List.length_cons]; omega
  | cons a l => rw [dist_cc]; omega
theorem dist_pick (a : Int) (l : List Int) : ∀ p, (∃ (o : Nat) (b : Int), p[o]? = some b ∧ o + differ a b + dist l (p.drop (o + 1)) = dist (a :: l) p) ∨ dist (a :: l) p = 1 + dist l p
  | [] => .inr (by rw [dist_cn, dist_nil]; omega)
  | b :: p => by
    have e := dist_cc a b l p
    have h1 := dist_drop1 l b p
    by_cases c1 : dist (a :: l) (b :: p) = differ a b + dist l p
    · exact .inl ⟨0, b, rfl, by simp only [Nat.zero_add, List.drop_succ_cons, List.drop_zero]; omega⟩
    · rcases dist_pick a l p with ⟨o, c, h2, h3⟩ | h2
      · by_cases c2 : dist (a :: l) (b :: p) = 1 + dist l (b :: p)
        · exact .inr c2
        · exact .inl ⟨o + 1, c, h2, by simp only [List.drop_succ_cons]; omega⟩
      · exact .inr (by omega)
theorem pick_some {a : Int} {l : List Int} {t : Int} : ∀ {p : List Int} {k o : Nat}, pick a l t p k = some o → ∃ (i : Nat) (b : Int), o = k + i ∧ p[i]? = some b ∧ (k + i : Nat) + differ a b + dist l (p.drop (i + 1)) = t
  | [], k, o, h => by cases h
  | b :: p, k, o, h => by
    unfold pick at h
    split at h
    · rename_i h1; cases h; exact ⟨0, b, rfl, rfl, by simpa using h1⟩
    · obtain ⟨i, c, h1, h2, h3⟩ := pick_some h
      exact ⟨i + 1, c, by omega, h2, by simp only [List.drop_succ_cons]; omega⟩
theorem pick_none {a : Int} {l : List Int} {t : Int} : ∀ {p : List Int} {k : Nat}, pick a l t p k = none → ∀ (i : Nat) b, p[i]? = some b → (k + i : Nat) + differ a b + dist l (p.drop (i + 1)) ≠ t
  | [], k, h, i, b, hi => by cases hi
  | c :: p, k, h, i, b, hi => by
    unfold pick at h
    split at h
    · cases h
    · rename_i h1
      cases i with
      | zero => cases hi; simpa using h1
      | succ i => have := pick_none h i b (by simpa using hi); simp only [List.drop_succ_cons]; omega
/-- what the pairs cost -/
def pcost (line par : List Int) : List (Int × Int) → Int
  | [] => 0
  | z :: ps => differ (line.getD z.1.toNat 0) (par.getD z.2.toNat 0) - 2 + pcost line par ps
theorem pairs_cost (L P : List Int) : ∀ (l : List Int) (i j : Nat), L.drop i = l → pcost L P (cmp (pairsGo l (P.drop j) j) i) + l.length + (P.drop j).length = dist l (P.drop j)
  | [], i, j, _ => by rw [pairsGo, cmp, pcost, dist_nl]; simp only [List.length_nil]; omega
  | a :: l, i, j, hL => by
    have hLi : L[i]? = some a := by have := congrArg (fun l => l[0]?) hL; simpa using this
    have hLd : L.drop (i + 1) = l := by have := congrArg List.tail hL; simpa using this
    rw [pairsGo]
    split
    · rename_i hn
      have hp := pick_none hn
      have ih := pairs_cost L P l (i + 1) j hLd
      rw [cmp, if_neg (by omega)]
      rcases dist_pick a l (P.drop j) with ⟨o, b, h1, h2⟩ | h2
      · exact absurd (by simpa using h2) (hp o b h1)
      · simp only [List.length_cons] at *; omega
    · rename_i o hs
      obtain ⟨o', b, h1, h2, h3⟩ := pick_some hs
      obtain rfl : o = o' := by omega
      have ih := pairs_cost L P l (i + 1) (j + o + 1) hLd
      have e1 : (P.drop j).drop (o + 1) = P.drop (j + o + 1) := by rw [List.drop_drop]; congr 1
      have hPo : P[j + o]? = some b := by rw [List.getElem?_drop] at h2; exact h2
      have hlt := (List.getElem?_eq_some_iff.1 hPo).1
      rw [e1] at h3 ⊢
      rw [cmp, if_pos (by omega), pcost]
      simp only [Int.toNat_natCast]
      rw [show L.getD i 0 = a from by simp [List.getD, hLi], show P.getD (j + o) 0 = b from by simp [List.getD, hPo]]
      simp only [List.length_cons, List.length_drop] at *
      omega
theorem pairs_asc (P : List Int) : ∀ (l : List Int) (p : List Int) (i j : Nat), (cmp (pairsGo l p j) i).Pairwise (fun a b => a.1 < b.1 ∧ a.2 < b.2) ∧ ∀ z ∈ cmp (pairsGo l p j) i, (i : Int) ≤ z.1 ∧ (j : Int) ≤ z.2
  | [], p, i, j => by rw [pairsGo, cmp]; simp
  | a :: l, p, i, j => by
    rw [pairsGo]
    split
    · obtain ⟨h1, h2⟩ := pairs_asc P l p (i + 1) j
      rw [cmp, if_neg (by omega)]
      exact ⟨h1, fun z hz => by have := h2 z hz; omega⟩
    · rename_i o _
      obtain ⟨h1, h2⟩ := pairs_asc P l (p.drop (o + 1)) (i + 1) (j + o + 1)
      rw [cmp, if_pos (by omega)]
      refine ⟨List.pairwise_cons.2 ⟨fun z hz => ?_, h1⟩, fun z hz => ?_⟩
      · have := h2 z hz; simp only; omega
      · rcases List.mem_cons.1 hz with rfl | hz
        · simp only; omega
        · have := h2 z hz; omega
end Go.Abs.Wall
set_option maxRecDepth 100000
set_option linter.unusedVariables false
namespace Go.Abs.Wall
open Go Go.Abs Go.Proofs Go.Proofs.Ytbgnfchlelhbeaa.Br
theorem meetCel_fit {a b : Cel} (ha : a.signs.length ≤ 1048576) (hb : b.signs.length ≤ 1048576) : (meetCel a b).1.signs.length ≤ 1048576 := by
  rw [meetCel_eq]
  have h1 : ∀ p : Int → Bool, (a.signs.filter p).length ≤ 1048576 := fun p => Nat.le_trans (List.length_filter_le _ _) ha
  repeat' split
  all_goals first | exact Nat.zero_le _ | exact ha | exact hb | exact h1 _ | (simp only [List.length_append]; omega) | skip
theorem meetGo_fit : ∀ {a b acc c : List Cel}, (∀ x ∈ a, x.signs.length ≤ 1048576) → (∀ x ∈ b, x.signs.length ≤ 1048576) → (∀ x ∈ acc, x.signs.length ≤ 1048576) → meetGo a b acc = some c → c.length ≤ a.length + acc.length ∧ ∀ x ∈ c, x.signs.length ≤ 1048576
  | [], b, acc, c, _, _, hz, h => by
    have : acc = c := by cases b <;> simpa [meetGo] using h
    subst this; exact ⟨by simp, hz⟩
  | x :: a, [], acc, c, _, _, hz, h => by
    have : acc = c := by simpa [meetGo] using h
    subst this; exact ⟨by simp, hz⟩
  | x :: a, y :: b, acc, c, ha, hb, hz, h => by
    rw [meetGo] at h
    split at h
    · have := meetGo_fit (fun z hz => ha z (by simp [hz])) (fun z hz => hb z (by simp [hz])) (acc := acc ++ [(meetCel x y).1]) (fun z hm => by
        rcases List.mem_append.1 hm with hm | hm
        · exact hz z hm
        · simp at hm; subst hm; exact meetCel_fit (ha x (by simp)) (hb y (by simp))) h
      refine ⟨?_, this.2⟩
      have := this.1
      simp only [List.length_append, List.length_cons, List.length_nil] at this ⊢; omega
    · cases h
theorem meetAll_fit (l : Lst) (a b : List Cel) (ha : CelsFit a) (hb : CelsFit b) : CelsFit (meetAll l a b).1 := by
  have h0 : CelsFit [] := ⟨by decide, by simp⟩
  unfold meetAll
  repeat' split
  all_goals first | exact h0 | skip
  rename_i cs h
  have h1 := meetGo_fit ha.signs hb.signs (by simp) h
  have h2 := ha.len
  have h3 := h1.1
  simp only [List.length_nil] at h3
  exact ⟨by simp only; omega, h1.2⟩
theorem divide_length {cells : List Cel} {line d : List Int} (h : divide cells line = some d) : d.length = line.length := by
  unfold divide at h
  split at h
  · rename_i hf; cases h; exact divS_length _ _ _ hf
  · cases h
theorem agrees_length (l : Lst) (cells : List Cel) (line : List Int) : (agrees l cells line).1.length ≤ line.length := by
  unfold agrees
  split
  · simp
  · split
    · simp
    · rename_i d h; have := divide_length h; simp only; omega
theorem changes_length (l : Lst) (a b : List Int) : (changes l a b).2.1.length ≤ b.length := by
  unfold changes
  split
  · simp
  · split
    · simp
    · have := cmp_length (pairsGo b a 0) 0
      rw [pairsGo_length] at this
      exact this
def c12 : Cfg := ⟨[0, 1, 2, 3, 6, 7, 8, 9, 10], [], [], [], [], []⟩
def c6 : Cfg := ⟨[0, 1, 2, 3, 6, 7, 8, 9, 10], [], [], [], [], []⟩
def c7 : Cfg := ⟨[0, 1, 2, 3, 6, 7, 8, 9, 10, 11, 12, 13, 44, 48, 59], [], [], [], [(8, [0, 1, 2, 3, 4, 5, 6, 7, 8], [])], []⟩
theorem lawMeets (l : Lst) (a b : List Cel) (hl : LstFit l) (ha : CelsFit a) (hb : CelsFit b) : QCall Try.prog 12 [.agg (encLst l), .sl 3 none (a.map encCel), .sl 3 none (b.map encCel)] [] (.bool true) := by
  have hf := meetAll_fit l a b ha hb
  refine fcalls (F := Try.f12) c12 rfl rfl rfl mixed rfl fun X => ?_
  conv => whnf
  repeat ((first | refine QCall.k0 (wallMeet l a b hl ha hb) ?_ | refine QCall.k0 (refMeet l a b hl ha hb) ?_ | refine gcall (sameCells _ _ hf hf) ?_ | refine gcall (works) ?_); conv => whnf)
  exact ⟨by simp, rfl⟩
theorem lawAgrees (l : Lst) (a : List Cel) (b : List Int) (hl : LstFit l) (ha : CelsFit a) (hb : b.length ≤ LMAX) : QCall Try.prog 6 [.agg (encLst l), .sl 3 none (a.map encCel), .sl 1 none (ints b)] [] (.bool true) := by
  have hL : (agrees l a b).1.length ≤ LMAX := Nat.le_trans (agrees_length l a b) hb
  refine fcalls (F := Try.f6) c6 rfl rfl rfl mixed rfl fun X => ?_
  conv => whnf
  repeat ((first | refine QCall.k0 (wallAgrees l a b hl ha hb) ?_ | refine QCall.k0 (refAgrees l a b hl ha hb) ?_ | refine gcall (sameInts _ _ hL hL) ?_ | refine gcall (works) ?_); conv => whnf)
  exact ⟨by simp, rfl⟩
theorem lawChanges (l : Lst) (a b : List Int) (hl : LstFit l) (ha : a.length ≤ LMAX) (hb : b.length ≤ LMAX) : QCall Try.prog 7 [.agg (encLst l), .sl 1 none (ints a), .sl 1 none (ints b)] [] (.bool true) := by
  refine fcalls (F := Try.f7) c7 rfl rfl rfl mixed rfl fun X => ?_
  conv => whnf
  repeat ((first | refine QCall.k0 (wallChanges l a b hl ha hb) ?_ | refine QCall.k0 (refChanges l a b hl ha hb) ?_); conv => whnf)
  refine cF (by simp) ?_
  conv => whnf
  obtain ⟨Y, hY⟩ : ∃ Y, Y = (changes l a b).2.1 := ⟨_, rfl⟩
  have hYl : Y.length ≤ LMAX := by rw [hY]; exact Nat.le_trans (changes_length l a b) hb
  unfold LMAX at hYl
  rw [← hY]
  refine sloop rfl mixed [8, 11, 13] [] (fun m r h => ∃ (i : Nat), r = [(8, [], .sl 2 none (Y.map encPr)), (11, [], .sl 2 none (Y.map encPr)), (13, [], .int .i64 i)] ∧ h = [] ∧ m = Y.length - i ∧ i ≤ Y.length) ?_ ?_
  · conv => whnf
    exact ⟨_, 0, rfl, rfl, rfl, by omega⟩
  · rintro m r h ⟨i, rfl, rfl, rfl, hi⟩
    conv => whnf
    refine ⟨fun hf => ?_, fun hf => ?_⟩ <;> simp at hf
    · obtain ⟨p, hp⟩ := get_lt hf
      conv => whnf
      repeat ((first | refine ix (by assumption) ?_ | refine And.intro (by show drawOK (opsAt Try.f7 _) _ = true; decide +kernel) ?_); conv => whnf)
      refine ⟨by decide +kernel, ?_⟩
      conv => whnf
      refine cF (by simp) ?_
      conv => whnf
      repeat (refine ⟨gP_of ⟨by omega, by omega⟩, ?_⟩; conv => whnf)
      exact ⟨_, by omega, i + 1, rfl, rfl, rfl, by omega⟩
    · conv => whnf
      repeat (refine QCall.k0 (works) ?_; conv => whnf)
      exact ⟨rfl, rfl⟩
end Go.Abs.Wall
set_option maxRecDepth 100000
set_option linter.unusedVariables false
namespace Go.Abs.Wall
open Go Go.Abs Go.Proofs Go.Proofs.Ytbgnfchlelhbeaa.Br
theorem bkt_none : ∀ (D S : List Int) (c : Int), (∀ d ∈ D, c < d) → bkt D S c = []
  | [], S, c, _ => by simp [bkt]
  | _ :: _, [], c, _ => by simp [bkt]
  | d :: D, s :: S, c, h => by
    rw [bkt, if_neg (by have := h d (by simp); omega)]
    exact bkt_none D S c fun x hx => h x (by simp [hx])
theorem bkt_rep : ∀ (m : Nat) (D S : List Int) (k c : Int), m ≤ S.length → (∀ d ∈ D, k < d) → bkt (List.replicate m k ++ D) S c = if c = k then S.take m else bkt D (S.drop m) c
  | 0, D, S, k, c, _, h => by
    by_cases e : c = k
    · subst e; simp [bkt_none D S c h]
    · simp [e]
  | m + 1, D, [], k, c, hm, h => by simp at hm
  | m + 1, D, s :: S, k, c, hm, h => by
    have ih := bkt_rep m D S k c (by simpa using hm) h
    rw [List.replicate_succ, List.cons_append, bkt, ih]
    by_cases e : c = k
    · subst e; simp
    · rw [if_neg (fun e' => e e'.symm), if_neg e, if_neg e]; rfl
theorem bkt_flat : ∀ (cs : List Cel) (S : List Int) (k : Int), fitB cs S = true → ((List.range cs.length).map fun (c : Nat) => bkt (divS cs S k) S (k + c)).flatten = S
  | [], S, k, h => by simp [fitB] at h; subst h; rfl
  | c :: cs, S, k, h => by
    have h0 := h
    rcases most_spec c (fitB cs) S with ⟨e, hn⟩ | ⟨m, e, h1, hm⟩
    · obtain ⟨m, h'⟩ := fitB_cons.1 h0; exact absurd h' (hn m)
    · have ih := bkt_flat cs (S.drop m) (k + 1) h1.2.2.2.2
      have hgt : ∀ d ∈ divS cs (S.drop m) (k + 1), k < d := fun d hd => by have := divS_bd cs _ _ d hd; omega
      rw [divS, e, Int.toNat_natCast, List.length_cons, List.range_succ_eq_map, List.map_cons, List.flatten_cons, bkt_rep m _ S k _ h1.2.2.1 hgt, if_pos (by simp), List.map_map]
      have : (List.range cs.length).map ((fun (c : Nat) => bkt (List.replicate m k ++ divS cs (S.drop m) (k + 1)) S (k + c)) ∘ Nat.succ) = (List.range cs.length).map fun (c : Nat) => bkt (divS cs (S.drop m) (k + 1)) (S.drop m) (k + 1 + c) := by
        refine List.map_congr_left fun c _ => ?_
        simp only [Function.comp]
        rw [bkt_rep m _ S k _ h1.2.2.1 hgt, if_neg (by omega)]
        congr 1; omega
      rw [this, ih, List.take_append_drop]
theorem lost_flat {l : Lst} {cells : List Cel} {r : Rst} (h : (lost l cells r).2 = 0) : (lost l cells r).1.flatten = r.signs := by
  unfold lost at h ⊢
  split at h
  · rename_i h1; exact absurd h h1
  · rename_i h1
    split at h
    · rename_i h2
      rw [if_neg h1, if_pos h2, ← h2]
      have hd := (agrees_ok (by simpa using h1 : (agrees l cells r.signs).2 = 0)).2
      unfold divide at hd
      split at hd
      · rename_i hf
        injection hd with hd
        rw [← hd]
        have := bkt_flat cells r.signs 0 hf
        simpa using this
      · cases hd
    · cases h
theorem lost_len (l : Lst) (cells : List Cel) (r : Rst) : (lost l cells r).1.length ≤ cells.length ∧ ∀ x ∈ (lost l cells r).1, x.length ≤ r.signs.length := by
  unfold lost
  split
  · simp
  · split
    · refine ⟨by simp, fun x hx => ?_⟩
      obtain ⟨c, _, rfl⟩ := List.mem_map.1 hx
      exact bkt_length _ _ _
    · simp
theorem lost_all {l : Lst} {cells : List Cel} {r : Rst} (hr : r.signs.length ≤ 1048576) : (lost l cells r).1.flatten.length ≤ 1048576 := by
  by_cases h : (lost l cells r).2 = 0
  · rw [lost_flat h]; exact hr
  · have : (lost l cells r).1 = [] := by
      unfold lost at h ⊢
      split
      · rfl
      · rename_i h1
        rw [if_neg h1] at h
        split
        · rename_i h2; rw [if_pos h2] at h; exact absurd rfl h
        · rfl
    rw [this]; simp
theorem take_flat {X : List (List Int)} {i : Nat} {x : List Int} (h : X[i]? = some x) : (X.take (i + 1)).flatten = (X.take i).flatten ++ x := by
  rw [List.take_add_one, h]; simp
theorem take_flat_le (X : List (List Int)) (i : Nat) : (X.take i).flatten.length ≤ X.flatten.length := by
  have : X.flatten = (X.take i).flatten ++ (X.drop i).flatten := by rw [← List.flatten_append, List.take_append_drop]
  rw [this, List.length_append]; omega
def c14 : Cfg := ⟨[0, 1, 2, 3, 5, 6, 7, 8, 9, 10, 11, 12, 27, 53, 57, 69], [], [], [], [(1, [0, 1, 2, 3, 4, 5, 6, 7, 8, 9, 10, 11, 12, 13, 14], []), (11, [0, 1, 2, 3, 4, 5, 6, 7, 8, 9], [])], []⟩
theorem lawVerifies (l : Lst) (cells : List Cel) (par : List Int) (w : Rst) (hl : LstFit l) (hc : CelsFit cells) (hp : par.length ≤ LMAX) (hr : RstFit w) (hr2 : w.signs.length ≤ 1048576) :
    QCall Try.prog 14 [.agg (encLst l), .sl 3 none (cells.map encCel), .agg (.sl 1 none (ints par) :: encRst w)] [] (.bool true) := by
  have hlen := lost_len l cells w
  have hall : (lost l cells w).1.flatten.length ≤ 1048576 := lost_all hr2
  have hflat := @lost_flat l cells w
  have hcl := hc.len
  refine QCall.of' ?_
  refine fcalls (F := Try.f14) c14 rfl rfl rfl mixed rfl fun X => ?_
  conv => whnf
  repeat ((first | refine gcall (wallVerify l cells par w hl hc hp hr) ?_ | refine gcall (refVerify l cells par w hl hc hp hr) ?_ | refine And.intro (by show drawOK (opsAt Try.f14 _) _ = true; decide +kernel) ?_); conv => whnf)
  refine cF (by simp) ?_
  conv => whnf
  repeat ((first | refine QCall.k0 (wallLost l cells w hl hc hr) ?_ | refine QCall.k0 (refLost l cells w hl hc hr) ?_); conv => whnf)
  refine cF (by simp) ?_
  conv => whnf
  obtain ⟨X, hX⟩ : ∃ X, X = (lost l cells w).1 := ⟨_, rfl⟩
  obtain ⟨E, hE⟩ : ∃ E, E = (lost l cells w).2 := ⟨_, rfl⟩
  rw [← hX] at hlen hall hflat ⊢
  rw [← hE] at hflat ⊢
  refine sloop rfl mixed [5, 7, 8, 9, 11, 12] [(11, 1)] (fun m r h => ∃ (i : Nat) (q : Nat), r = [(5, [], .iptr (.sl 1 none (ints par) :: encRst w)), (7, [], .sl 1 none (X.map encL)), (8, [], .int .i64 E), (9, [], .sl 1 none (X.map encL)), (11, [], .sl 1 (some q) (ints ((X.take i).flatten))), (12, [], .int .i64 i)] ∧ h = [(q, .tok)] ∧ m = X.length - i ∧ i ≤ X.length) ?_ ?_
  · conv => whnf
    refine ⟨by decide, fun q => ?_⟩
    conv => whnf
    exact ⟨_, 0, q, rfl, rfl, rfl, by omega⟩
  · rintro m r h ⟨i, q, rfl, rfl, rfl, hi⟩
    conv => whnf
    refine ⟨fun hf => ?_, fun hf => ?_⟩ <;> simp at hf
    · obtain ⟨x, hx⟩ := get_lt hf
      have hxl := hlen.2 x (List.mem_of_getElem? hx)
      have hfl := take_flat_le X (i + 1)
      rw [take_flat hx, List.length_append] at hfl
      conv => whnf
      repeat ((first | refine ix (by assumption) ?_ | refine gcall (sameInts x x (by unfold LMAX; omega) (by unfold LMAX; omega)) ?_ | refine And.intro (by show drawOK (opsAt Try.f14 _) _ = true; decide +kernel) ?_); conv => whnf)
      refine cF (by simp) ?_
      conv => whnf
      repeat ((first | refine ⟨gP_of ⟨by omega, by omega⟩, ?_⟩ | refine ix (by assumption) ?_ | (refine ⟨(by rw [List.length_append, ints_length, ints_length]; unfold AMAX; omega), fun q' => ⟨_, .here _, ?_⟩⟩)); conv => whnf)
      exact ⟨_, by omega, i + 1, q', by rw [take_flat hx]; simp [ints], rfl, rfl, by omega⟩
    · have hil : X.take i = X := List.take_of_length_le (by omega)
      rw [hil]
      conv => whnf
      repeat ((first | (refine gcallH (QCall.more (QCall.args (sameInts X.flatten w.signs (by unfold LMAX; omega) (by unfold LMAX; omega)) (.cons VLe.sl (VsLe.refl _)))) ?_)
                     | refine gcall (works) ?_); conv => whnf)
      by_cases h0 : E = 0
      · simp [h0, hflat h0]
      · simp [h0]
/-! ### Both -/
theorem agrees_zero {l : Lst} {cells : List Cel} {line : List Int} : (agrees l cells line).2 = 0 ↔ (checkErr l cells = 0 ∧ lineErr l.signs.length line = 0 ∧ fitB cells line = true) := by
  constructor
  · intro h
    obtain ⟨h1, h2⟩ := agrees_ok h
    unfold checkErr1 at h1
    split at h1
    · rename_i h3; exact absurd h1 h3
    · rename_i h3
      refine ⟨by simpa using h3, h1, ?_⟩
      unfold divide at h2
      split at h2
      · rename_i h4; exact h4
      · cases h2
  · rintro ⟨h1, h2, h3⟩
    unfold agrees
    rw [if_neg (by unfold checkErr1; simp [h1, h2])]
    unfold divide
    rw [if_pos h3]
def c16 : Cfg := ⟨[0, 1, 2, 3, 4, 6, 7, 8, 10, 12, 23, 28, 37], [], [], [], [], []⟩
theorem lawBoth (l : Lst) (a b : List Cel) (line : List Int) (hl : LstFit l) (ha : CelsFit a) (hb : CelsFit b) (hn : line.length ≤ LMAX) :
    QCall Try.prog 16 [.agg (encLst l), .agg [.sl 3 none (a.map encCel), .sl 3 none (b.map encCel)], .sl 1 none (ints line)] [] (.bool true) := by
  have hf := meetAll_fit l a b ha hb
  refine fcalls (F := Try.f16) c16 rfl rfl rfl mixed rfl fun X => ?_
  conv => whnf
  repeat (refine QCall.k0 (wallMeet l a b hl ha hb) ?_; conv => whnf)
  obtain ⟨m, e, hme⟩ : ∃ m e, meetAll l a b = (m, e) := ⟨_, _, rfl⟩
  rw [hme] at hf ⊢
  simp only at hf ⊢
  by_cases he : e = 0
  · subst he
    obtain ⟨h1, h2, h3, h4, h5⟩ := meetAll_ok hme
    refine cF (by simp) ?_
    conv => whnf
    repeat (refine QCall.k0 (wallCheck' l m hl hf) ?_; conv => whnf)
    refine cF (by simp [h3]) ?_
    conv => whnf
    repeat (refine QCall.k0 (wallAgrees l m line hl hf hn) ?_; conv => whnf)
    by_cases hg : (agrees l m line).2 = 0
    · refine cF (by simp [hg]) ?_
      have hg2 := agrees_zero.1 hg
      have e1 : (agrees l a line).2 = 0 := agrees_zero.2 ⟨h1, hg2.2.1, h4 _ hg2.2.2⟩
      have e2 : (agrees l b line).2 = 0 := agrees_zero.2 ⟨h2, hg2.2.1, h5 _ hg2.2.2⟩
      conv => whnf
      repeat ((first | refine QCall.k0 (wallAgrees l a line hl ha hn) ?_ | refine QCall.k0 (wallAgrees l b line hl hb hn) ?_ | refine gcall (works) ?_); conv => whnf)
      exact ⟨by simp [e1, e2], rfl⟩
    · refine cT (by simp [hg]) ?_
      conv => whnf
      repeat (refine QCall.k0 (works) ?_; conv => whnf)
      exact ⟨rfl, rfl⟩
  · refine cT (by simp [he]) ?_
    conv => whnf
    repeat (refine QCall.k0 (works) ?_; conv => whnf)
    exact ⟨rfl, rfl⟩
end Go.Abs.Wall
set_option maxRecDepth 100000
set_option linter.unusedVariables false
namespace Go.Abs.Wall
open Go Go.Abs Go.Proofs Go.Proofs.Ytbgnfchlelhbeaa.Br
/-! ### Distance -/
theorem changes_ok {l : Lst} {a b : List Int} : (changes l a b).2.2 = 0 ↔ (lstErr l = 0 ∧ lineErr l.signs.length a = 0 ∧ lineErr l.signs.length b = 0) := by
  unfold changes
  rw [linesErr_two]
  by_cases h1 : lstErr l = 0
  · rw [if_neg (by simpa using h1)]
    by_cases h2 : lineErr l.signs.length a = 0
    · by_cases h3 : lineErr l.signs.length b = 0
      · simp [h1, h2, h3]
      · simp [h1, h2, h3]
    · simp [h1, h2]
  · rw [if_pos h1]; simp [h1]
theorem changes_val {l : Lst} {a b : List Int} (h : (changes l a b).2.2 = 0) : changes l a b = (dist b a, cmp (pairsGo b a 0) 0, 0) := by
  obtain ⟨h1, h2, h3⟩ := changes_ok.1 h
  unfold changes
  rw [linesErr_two, if_neg (by simpa using h1), if_neg (by simp [h2, h3])]
theorem changes_bd (l : Lst) (a b : List Int) : 0 ≤ (changes l a b).1 ∧ (changes l a b).1 ≤ a.length + b.length := by
  unfold changes
  split
  · simp only; omega
  · split
    · simp only; omega
    · have := dist_bd b a; simp only; omega
def c8 : Cfg := ⟨[0, 1, 2, 3, 5, 6, 7, 8, 9, 10, 12, 13, 14, 15, 16, 18, 43, 63, 73, 128, 142, 147], [], [15], [], [(12, [0, 1, 2, 3, 4, 5, 6, 7, 8, 9, 10, 11, 12, 13, 14, 15, 16, 17, 18, 19, 20, 21, 22, 23, 24, 25, 26, 27, 28, 29, 30, 31, 32, 33, 34, 35, 36, 37, 38, 39, 40, 41, 42, 43, 44, 45, 46, 47, 48], []), (15, [0, 1, 2, 3, 4, 5, 6, 7, 8, 9, 10, 11], [])], []⟩
theorem lawDistance (l : Lst) (a b c : List Int) (hl : LstFit l) (ha : a.length ≤ 1048576) (hb : b.length ≤ 1048576) (hc : c.length ≤ 1048576) :
    QCall Try.prog 8 [.agg (encLst l), .sl 1 none (ints a), .agg [.sl 1 none (ints b), .sl 1 none (ints c)]] [] (.bool true) := by
  have hA : a.length ≤ LMAX := by unfold LMAX; omega
  have hB : b.length ≤ LMAX := by unfold LMAX; omega
  have hC : c.length ≤ LMAX := by unfold LMAX; omega
  refine QCall.of' ?_
  refine fcalls (F := Try.f8) c8 rfl rfl rfl mixed rfl fun X => ?_
  conv => whnf
  repeat ((first | refine QCall.k0 (wallChanges l a b hl hA hB) ?_ | refine QCall.k0 (wallChanges l b a hl hB hA) ?_); conv => whnf)
  by_cases h0 : (changes l a b).2.2 = 0
  · obtain ⟨k1, k2, k3⟩ := changes_ok.1 h0
    have h0' : (changes l b a).2.2 = 0 := changes_ok.2 ⟨k1, k3, k2⟩
    rw [changes_val h0, changes_val h0']
    refine cF (by simp) ?_
    conv => whnf
    repeat (refine gcall (sameInts a b hA hB) ?_; conv => whnf)
    refine cF (by
      simp only [dist_comm a b, decide_true, Bool.not_true, Bool.false_or, Bool.not_eq_false']
      by_cases hab : a = b
      · subst hab; simp [dist_self]
      · have : ¬ dist b a = 0 := fun h => hab (dist_zero h).symm
        simp [hab, this]) ?_
    conv => whnf
    rw [ints_length, ints_length]
    repeat (refine ⟨gP_of ⟨by omega, by omega⟩, ?_⟩; conv => whnf)
    obtain ⟨PR, hPR⟩ : ∃ PR, PR = cmp (pairsGo b a 0) 0 := ⟨_, rfl⟩
    have hcost := pairs_cost b a b 0 0 rfl
    have hasc := (pairs_asc a b a 0 0).1
    have hlen := cmp_length (pairsGo b a 0) 0
    rw [pairsGo_length] at hlen
    have hbd : ∀ z ∈ PR, 0 ≤ z.1 ∧ z.1 < b.length ∧ 0 ≤ z.2 ∧ z.2 < a.length := by
      rw [hPR]
      refine cmp_bd _ 0 (fun k hk => ?_) (by rw [pairsGo_length]; omega)
      have := pairsGo_bd b a 0 k hk
      omega
    simp only [List.drop_zero] at hcost
    rw [← hPR] at hcost hasc hlen ⊢
    rw [List.pairwise_iff_getElem] at hasc
    have hdb := dist_bd b a
    refine sloop rfl mixed [1, 3, 5, 7, 8, 13, 14] [] (fun m r h => ∃ (i : Nat) (lf : Int), r = [(1, [], .sl 1 none (ints a)), (3, [], .iptr (encLst l)), (5, [], .iptr [.sl 1 none (ints b), .sl 1 none (ints c)]), (7, [], .int .i64 (dist b a)), (8, [], .sl 2 none (PR.map encPr)), (13, [], .int .i64 lf), (14, [], .int .i64 i)] ∧ h = [] ∧ m = PR.length - i ∧ i ≤ PR.length ∧ lf + pcost b a (PR.drop i) = dist b a ∧ -4194304 ≤ lf + 2 * i ∧ lf ≤ 4194304) ?_ ?_
    · conv => whnf
      exact ⟨_, 0, _, rfl, rfl, rfl, by omega, by rw [List.drop_zero]; omega, by omega, by omega⟩
    · rintro m r h ⟨i, lf, rfl, rfl, rfl, hi, hcl, hl0, hl1⟩
      conv => whnf
      refine ⟨fun hf => ?_, fun hf => ?_⟩ <;> simp at hf
      · obtain ⟨z, hz⟩ := get_lt hf
        obtain ⟨b1, b2, b3, b4⟩ := hbd z (List.mem_of_getElem? hz)
        rw [drop_cons hz, pcost] at hcl
        have hpl : (PR.map encPr).length = PR.length := by simp
        have hx1 : b[z.1.toNat]? = some (b.getD z.1.toNat 0) := by rw [getD_lt (by omega), List.getElem?_eq_getElem (by omega)]
        have hx2 : a[z.2.toNat]? = some (a.getD z.2.toNat 0) := by rw [getD_lt (by omega), List.getElem?_eq_getElem (by omega)]
        conv => whnf
        repeat ((first | refine ⟨gP_of ⟨by omega, by omega⟩, ?_⟩ | refine ix (by assumption) ?_ | (refine ixg (0, 0) ?_ ?_; (focus (conv => whnf; skip)); (focus (first | (intro g1 g2; have g2 := of_decide_eq_true g2; show 0 ≤ _ ∧ _ < _; omega) | (intro g1 g2 g3; have g2 := of_decide_eq_true g2; show 0 ≤ _ ∧ _ < _; omega))))
                       | refine ⟨_, _, Rem.here _, ⟨Nat.le_of_ble_eq_true rfl, rfl⟩, ?_⟩ | refine And.intro (by show drawOK (opsAt Try.f8 _) _ = true; decide +kernel) ?_ | intro (nb : Nat)); conv => whnf)
        have hprev : (0 : Int) < (i : Int) → (PR.getD ((i : Int) - 1).toNat (0, 0)).1 < z.1 ∧ (PR.getD ((i : Int) - 1).toNat (0, 0)).2 < z.2 := by
          intro h
          have h2 := hasc (i - 1) i (by omega) hf (by omega)
          have h3 := (List.getElem?_eq_some_iff.1 hz).2
          rw [h3] at h2
          rw [show ((i : Int) - 1).toNat = i - 1 from by omega, getD_lt (by omega)]
          exact h2
        refine cF (by
          rw [ints_length, ints_length]
          simp only [Bool.or_eq_false_iff, Bool.and_eq_false_iff, decide_eq_false_iff_not]
          refine ⟨⟨⟨⟨by omega, by omega⟩, by omega⟩, by omega⟩, ?_⟩
          by_cases h : (0 : Int) < (i : Int)
          · right; have := hprev h; omega
          · left; exact h) ?_
        conv => whnf
        repeat ((first | refine ⟨gP_of ⟨by omega, by omega⟩, ?_⟩ | (refine ixn z.1.toNat (by omega) hx1 ?_) | (refine ixn z.2.toNat (by omega) hx2 ?_) | refine And.intro (by show drawOK (opsAt Try.f8 _) _ = true; decide +kernel) ?_); conv => whnf)
        refine ⟨fun he => ?_, fun he => ?_⟩
        · have he : differ (b.getD z.1.toNat 0) (a.getD z.2.toNat 0) = 1 := by
            unfold differ; rw [if_neg]; simpa [-List.getD_eq_getElem?_getD] using he
          rw [he] at hcl
          conv => whnf
          repeat (refine ⟨gP_of ⟨by omega, by omega⟩, ?_⟩; conv => whnf)
          exact ⟨_, by omega, i + 1, _, rfl, rfl, rfl, by omega, by omega, by omega, by omega⟩
        · have he : differ (b.getD z.1.toNat 0) (a.getD z.2.toNat 0) = 0 := by
            unfold differ; rw [if_pos]; simpa [-List.getD_eq_getElem?_getD] using he
          rw [he] at hcl
          conv => whnf
          repeat (refine ⟨gP_of ⟨by omega, by omega⟩, ?_⟩; conv => whnf)
          exact ⟨_, by omega, i + 1, _, rfl, rfl, rfl, by omega, by omega, by omega, by omega⟩
      · rw [drop_nil hf, pcost] at hcl
        conv => whnf
        skip
        refine cF (by simp; omega) ?_
        conv => whnf
        repeat ((first | refine QCall.k0 (wallChanges l a c hl hA hC) ?_ | refine QCall.k0 (wallChanges l c b hl hC hB) ?_); conv => whnf)
        have q1 := changes_bd l a c
        have q2 := changes_bd l c b
        repeat ((first | refine ⟨gP_of ⟨by omega, by omega⟩, ?_⟩ | refine gcall (works) ?_); conv => whnf)
        by_cases m1 : (changes l a c).2.2 = 0
        · by_cases m2 : (changes l c b).2.2 = 0
          · have e1 := congrArg (·.1) (changes_val m1)
            have e2 := congrArg (·.1) (changes_val m2)
            simp only at e1 e2
            have htri := dist_tri _ b a c (Nat.le_refl _)
            have hle : dist b a ≤ (changes l a c).1 + (changes l c b).1 := by omega
            simp [m1, m2, hle]
          · simp [m1, m2]
        · simp [m1]
  · have h0' : ¬ (changes l b a).2.2 = 0 := fun h => h0 (changes_ok.2 (by have := changes_ok.1 h; exact ⟨this.1, this.2.2, this.2.1⟩))
    refine cT (by simp [h0]) ?_
    conv => whnf
    repeat (refine gcall (works) ?_; conv => whnf)
    simp [h0, h0']
end Go.Abs.Wall
set_option maxRecDepth 100000
set_option linter.unusedVariables false
namespace Go.Abs.Wall
open Go Go.Abs Go.Proofs Go.Proofs.Ytbgnfchlelhbeaa.Br
theorem shRst {xs : List AV} (h : Sh Try.prog B20 36 xs) : ∃ r : Rst, xs = encRst r ∧ RstFit r ∧ r.signs.length ≤ 1048576 := by
  obtain ⟨ps, rfl, hp⟩ := sh_struct h rfl
  obtain ⟨x, y, z, u, rfl, h1, h2, h3, h4⟩ := sh4 hp
  obtain ⟨a, rfl, ha, _⟩ := shInts h1
  obtain ⟨b, rfl, hb, _⟩ := shInts h2
  obtain ⟨c, rfl, hc, _⟩ := shInts h3
  obtain ⟨d, rfl, _⟩ := shInt h4
  unfold B20 at ha hb hc
  exact ⟨⟨a, b, c, d⟩, rfl, ⟨by unfold LMAX; simp only; omega, by unfold LMAX; simp only; omega, by unfold LMAX; simp only; omega⟩, ha⟩
theorem argClaim {x : AV} (h : ArgSh Try.prog B20 71 x) : ∃ (par : List Int) (r : Rst), x = .agg (.sl 1 none (ints par) :: encRst r) ∧ par.length ≤ 1048576 ∧ RstFit r ∧ r.signs.length ≤ 1048576 := by
  obtain ⟨xs, h, hx⟩ := h
  have hx : x = .agg xs := hx
  subst hx
  obtain ⟨ps, rfl, hp⟩ := sh_struct h rfl
  obtain ⟨y, z, rfl, h1, h2⟩ := sh2 hp
  obtain ⟨a, rfl, ha, _⟩ := shInts h1
  obtain ⟨r, rfl, hr, hr2⟩ := shRst h2
  exact ⟨a, r, rfl, ha, hr, hr2⟩
theorem argTwo {x : AV} (h : ArgSh Try.prog B20 80 x) : ∃ a b : List Cel, x = .agg [.sl 3 none (a.map encCel), .sl 3 none (b.map encCel)] ∧ CelsFit a ∧ CelsFit b := by
  obtain ⟨xs, h, hx⟩ := h
  have hx : x = .agg xs := hx
  subst hx
  obtain ⟨ps, rfl, hp⟩ := sh_struct h rfl
  obtain ⟨y, z, rfl, h1, h2⟩ := sh2 hp
  obtain ⟨a, rfl, ha⟩ := shCels h1
  obtain ⟨b, rfl, hb⟩ := shCels h2
  exact ⟨a, b, rfl, ha, hb⟩
theorem argLines {x : AV} (h : ArgSh Try.prog B20 56 x) : ∃ a b : List Int, x = .agg [.sl 1 none (ints a), .sl 1 none (ints b)] ∧ a.length ≤ 1048576 ∧ b.length ≤ 1048576 := by
  obtain ⟨xs, h, hx⟩ := h
  have hx : x = .agg xs := hx
  subst hx
  obtain ⟨ps, rfl, hp⟩ := sh_struct h rfl
  obtain ⟨y, z, rfl, h1, h2⟩ := sh2 hp
  obtain ⟨a, rfl, ha, _⟩ := shInts h1
  obtain ⟨b, rfl, hb, _⟩ := shInts h2
  exact ⟨a, b, rfl, ha, hb⟩
theorem lmax {n : Nat} (h : n ≤ 1048576) : n ≤ LMAX := by unfold LMAX; omega
end Go.Abs.Wall
