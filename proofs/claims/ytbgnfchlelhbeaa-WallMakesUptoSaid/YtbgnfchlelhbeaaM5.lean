/- What is proved: small laws for the walks of this seat, and contracts of its functions. No condition but those each theorem names. -/
import Derived.Test.YtbgnfchlelhbeaaM4
set_option maxRecDepth 100000
set_option linter.unusedVariables false
namespace Go.Abs.Wall
open Go Go.Abs Go.Proofs
/-! ### Meet -/
def checkErr (l : Lst) (cells : List Cel) : Int := if lstErr l ≠ 0 then lstErr l else if right l.signs.length cells then 0 else 70
structure CelsFit (cs : List Cel) : Prop where
  len : cs.length ≤ 1048576
  signs : ∀ c ∈ cs, c.signs.length ≤ 1048576
theorem CelsFit.l {cs : List Cel} (h : CelsFit cs) : cs.length ≤ LMAX := by have := h.len; unfold LMAX; omega
theorem CelsFit.s {cs : List Cel} (h : CelsFit cs) : ∀ c ∈ cs, c.signs.length ≤ LMAX := fun c hc => by have := h.signs c hc; unfold LMAX; omega
theorem wallCheck' (l : Lst) (cells : List Cel) (hl : LstFit l) (hc : CelsFit cells) : QCall Try.prog 45 [.agg (encLst l), .sl 3 none (cells.map encCel)] [] (.int .i64 (checkErr l cells)) := wallCheck l cells hl hc.l hc.s
theorem refCheckW' (l : Lst) (cells : List Cel) (hl : LstFit l) (hc : CelsFit cells) : QCall Try.prog 32 [.agg (encLst l), .sl 3 none (cells.map encCel)] [] (.int .i64 (checkErr l cells)) := refCheckW l cells hl hc.l hc.s
theorem nilTup {k : Nat} {e : Int} (hk : 0 < k) : VLe (.tup [.nilS, .int .i64 e]) (.tup [.sl k none [], .int .i64 e]) := VLe.tup (.cons (VLe.nil hk) (VsLe.refl _))
end Go.Abs.Wall
set_option maxRecDepth 100000
set_option linter.unusedVariables false
namespace Go.Abs.Wall
open Go Go.Abs Go.Proofs
/-! ### equality of lists; the checks of lines -/
theorem eq_drop {α : Type} [DecidableEq α] {a b : List α} {i : Nat} {x y : α} (hx : a[i]? = some x) (hy : b[i]? = some y) : decide (a.drop i = b.drop i) = (decide (x = y) && decide (a.drop (i + 1) = b.drop (i + 1))) := by
  rw [drop_cons hx, drop_cons hy]
  simp
def c99 : Cfg := ⟨[0, 1, 4, 7], [], [], [], [], []⟩
def c104 : Cfg := ⟨[0, 1, 4, 7], [], [], [], [], []⟩
def c66 : Cfg := ⟨[0, 1, 4, 5, 8, 12, 27], [], [], [], [], []⟩
def c58 : Cfg := ⟨[0, 1, 2, 3, 6, 7, 12], [], [], [], [], []⟩
def c48 : Cfg := ⟨[0, 1, 2, 3, 6, 7, 12], [], [], [], [], []⟩
def differ (a b : Int) : Int := if a = b then 0 else 1
theorem differW (a b : Int) : QCall Try.prog 99 [.int .i64 a, .int .i64 b] [] (.int .i64 (differ a b)) := by
  refine fcalls (F := Try.f99) c99 rfl rfl rfl mixed rfl fun X => ?_
  conv => whnf
  refine ⟨fun hc => ?_, fun hc => ?_⟩ <;> simp at hc
  · conv => whnf
    exact ⟨by rw [differ, if_neg hc], rfl⟩
  · conv => whnf
    exact ⟨by rw [differ, if_pos hc], rfl⟩
theorem differR (a b : Int) : QCall Try.prog 104 [.int .i64 a, .int .i64 b] [] (.int .i64 (differ a b)) := by
  refine fcalls (F := Try.f104) c104 rfl rfl rfl mixed rfl fun X => ?_
  conv => whnf
  refine ⟨fun hc => ?_, fun hc => ?_⟩ <;> simp at hc
  · conv => whnf
    exact ⟨by rw [differ, if_pos hc], rfl⟩
  · conv => whnf
    exact ⟨by rw [differ, if_neg hc], rfl⟩
theorem checkLine (n : Int) (l : List Int) (hl : l.length ≤ LMAX) : QCall Try.prog 66 [.sl 1 none (ints l), .int .i64 n] [] (.int .i64 (lineErr n l)) := by
  refine fcalls (F := Try.f66) c66 rfl rfl rfl mixed rfl fun X => ?_
  conv => whnf
  unfold LMAX at hl
  refine ⟨fun hc => ?_, fun hc => ?_⟩ <;> simp at hc
  · conv => whnf
    exact ⟨by rw [lineErr, if_pos (by omega)], rfl⟩
  have hle : lineErr n l = if l.any (fun s => !inR n s) then 23 else 0 := by rw [lineErr, if_neg (by omega)]
  conv => whnf
  refine sloop rfl mixed [0, 1, 5] [] (fun m r h => ∃ (i : Nat), r = [(0, [], .sl 1 none (ints l)), (1, [], .int .i64 n), (5, [], .int .i64 i)] ∧ h = [] ∧ m = l.length - i ∧ i ≤ l.length ∧ l.any (fun s => !inR n s) = (l.drop i).any (fun s => !inR n s)) ?_ ?_
  · conv => whnf
    exact ⟨_, 0, rfl, rfl, rfl, by omega, rfl⟩
  · rintro m r h ⟨i, rfl, rfl, rfl, hi, hr⟩
    conv => whnf
    refine ⟨fun hd => ?_, fun hd => ?_⟩ <;> simp at hd
    · obtain ⟨x, hx⟩ := get_lt hd
      rw [drop_cons hx, List.any_cons] at hr
      have hin : (decide (x < 0) || decide (n ≤ x)) = !inR n x := by
        unfold inR; rw [Bool.eq_iff_iff]; simp; omega
      conv => whnf
      repeat (refine ix (by assumption) ?_; conv => whnf)
      rw [hin]
      refine ⟨fun he => ?_, fun he => ?_⟩
      · rw [he, Bool.true_or] at hr
        conv => whnf
        exact ⟨by rw [hle, hr]; rfl, rfl⟩
      · rw [he, Bool.false_or] at hr
        conv => whnf
        repeat (refine ⟨gP_of ⟨by omega, by omega⟩, ?_⟩; conv => whnf)
        exact ⟨_, by omega, i + 1, rfl, rfl, rfl, by omega, hr⟩
    · rw [drop_nil hd] at hr
      conv => whnf
      exact ⟨by rw [hle, hr]; rfl, rfl⟩
def checkErr1 (l : Lst) (cells : List Cel) (line : List Int) : Int := if checkErr l cells ≠ 0 then checkErr l cells else lineErr l.signs.length line
theorem refCheck1 (l : Lst) (cells : List Cel) (line : List Int) (hl : LstFit l) (hc : CelsFit cells) (hn : line.length ≤ LMAX) :
    QCall Try.prog 58 [.agg (encLst l), .sl 3 none (cells.map encCel), .sl 1 none (ints line)] [] (.int .i64 (checkErr1 l cells line)) := by
  refine fcalls (F := Try.f58) c58 rfl rfl rfl mixed rfl fun X => ?_
  conv => whnf
  repeat (refine QCall.k0 (refCheckW' l cells hl hc) ?_; conv => whnf)
  refine ⟨fun hd => ?_, fun hd => ?_⟩ <;> simp at hd
  · conv => whnf
    exact ⟨by rw [checkErr1, if_pos hd], rfl⟩
  · conv => whnf
    rw [List.length_map]
    repeat (refine QCall.k0 (checkLine l.signs.length line hn) ?_; conv => whnf)
    exact ⟨by rw [checkErr1, if_neg (by simpa using hd)], rfl⟩
def checkErrN (l : Lst) (cells : List Cel) (lines : List (List Int)) : Int := if checkErr l cells ≠ 0 then checkErr l cells else linesErr l.signs.length lines
theorem wallCheckN (l : Lst) (cells : List Cel) (lines : List (List Int)) (hl : LstFit l) (hc : CelsFit cells) (hn : lines.length ≤ LMAX) (hs : ∀ x ∈ lines, x.length ≤ LMAX) :
    QCall Try.prog 48 [.agg (encLst l), .sl 3 none (cells.map encCel), .sl 1 none (lines.map encL)] [] (.int .i64 (checkErrN l cells lines)) := by
  refine fcalls (F := Try.f48) c48 rfl rfl rfl mixed rfl fun X => ?_
  conv => whnf
  have := hl.signs
  unfold LMAX at this
  repeat (refine QCall.k0 (wallCheck' l cells hl hc) ?_; conv => whnf)
  refine ⟨fun hd => ?_, fun hd => ?_⟩ <;> simp at hd
  · conv => whnf
    exact ⟨by rw [checkErrN, if_pos hd], rfl⟩
  · conv => whnf
    rw [List.length_map]
    repeat (refine QCall.k0 (checkLines l.signs.length lines (by omega) hn hs) ?_; conv => whnf)
    exact ⟨by rw [checkErrN, if_neg (by simpa using hd)], rfl⟩
theorem linesErr_one (n : Int) (l : List Int) : linesErr n [l] = lineErr n l := by simp [linesErr, lineErr]
/-! ### what the statements compare -/
structure Rst where
  signs : List Int
  cells : List Int
  source : List Int
  changes : Int
  deriving DecidableEq
def encRst (r : Rst) : List AV := [.sl 1 none (ints r.signs), .sl 1 none (ints r.cells), .sl 1 none (ints r.source), .int .i64 r.changes]
structure RstFit (r : Rst) : Prop where
  signs : r.signs.length ≤ LMAX
  cells : r.cells.length ≤ LMAX
  source : r.source.length ≤ LMAX
def c24 : Cfg := ⟨[0, 1, 2, 3, 4], [], [], [], [], []⟩
def c37 : Cfg := ⟨[0, 1, 4, 5, 10, 14, 54], [], [], [], [(6, [0, 1, 2, 3, 4, 5, 6, 7, 8, 9, 10, 11, 12, 13, 14, 15, 16, 17, 18, 19, 20, 21, 22, 23, 24, 25, 26, 27, 28, 29, 30, 31, 32, 33, 34, 35, 36, 37], [])], []⟩
def c18 : Cfg := ⟨[0, 1, 2, 3, 6, 7, 8, 28, 37], [], [], [], [], []⟩
theorem same (a b : Rst) (ha : RstFit a) (hb : RstFit b) : QCall Try.prog 24 [.agg (encRst a), .agg (encRst b)] [] (.bool (decide (a = b))) := by
  refine fcalls (F := Try.f24) c24 rfl rfl rfl mixed rfl fun X => ?_
  conv => whnf
  repeat ((first | refine gcall (sameInts a.signs b.signs ha.signs hb.signs) ?_ | refine gcall (sameInts a.cells b.cells ha.cells hb.cells) ?_ | refine gcall (sameInts a.source b.source ha.source hb.source) ?_); conv => whnf)
  refine ⟨congrArg AV.bool ?_, rfl⟩
  cases a; cases b
  rw [Bool.eq_iff_iff]
  simp
  constructor
  · rintro ⟨⟨⟨h1, h2⟩, h3⟩, h4⟩; exact ⟨h2, h3, h4, h1⟩
  · rintro ⟨h2, h3, h4, h1⟩; exact ⟨⟨⟨h1, h2⟩, h3⟩, h4⟩
theorem sameCells (a b : List Cel) (ha : CelsFit a) (hb : CelsFit b) : QCall Try.prog 37 [.sl 3 none (a.map encCel), .sl 3 none (b.map encCel)] [] (.bool (decide (a = b))) := by
  refine fcalls (F := Try.f37) c37 rfl rfl rfl mixed rfl fun X => ?_
  conv => whnf
  have hal := ha.len
  have hbl := hb.len
  refine ⟨fun hc => ?_, fun hc => ?_⟩ <;> simp at hc
  · conv => whnf
    exact ⟨congrArg AV.bool (decide_eq_false (fun e => by rw [e] at hc; exact hc rfl)).symm, rfl⟩
  conv => whnf
  refine sloop rfl mixed [0, 1, 5] [] (fun m r h => ∃ (i : Nat), r = [(0, [], .sl 3 none (a.map encCel)), (1, [], .sl 3 none (b.map encCel)), (5, [], .int .i64 i)] ∧ h = [] ∧ m = a.length - i ∧ i ≤ a.length ∧ decide (a = b) = decide (a.drop i = b.drop i)) ?_ ?_
  · conv => whnf
    exact ⟨_, 0, rfl, rfl, rfl, by omega, rfl⟩
  · rintro m r h ⟨i, rfl, rfl, rfl, hi, hr⟩
    conv => whnf
    refine ⟨fun hd => ?_, fun hd => ?_⟩ <;> simp at hd
    · obtain ⟨x, hx⟩ := get_lt hd
      obtain ⟨y, hy⟩ := get_lt (show i < b.length by omega)
      have h1 := ha.s x (List.mem_of_getElem? hx)
      have h2 := hb.s y (List.mem_of_getElem? hy)
      rw [eq_drop hx hy] at hr
      have hxy : decide (x = y) = (decide (x.mn = y.mn) && decide (x.mx = y.mx) && decide (x.signs = y.signs)) := by
        cases x; cases y; rw [Bool.eq_iff_iff]; simp [and_assoc]
      conv => whnf
      repeat ((first | refine ix (by assumption) ?_ | refine gcall (sameInts x.signs y.signs h1 h2) ?_ | refine And.intro (by show drawOK (opsAt Try.f37 _) _ = true; decide +kernel) ?_); conv => whnf)
      refine ⟨fun he => ?_, fun he => ?_⟩
      · have : decide (x = y) = false := by
          rw [hxy]; revert he; cases decide (x.mn = y.mn) <;> cases decide (x.mx = y.mx) <;> cases decide (x.signs = y.signs) <;> decide
        conv => whnf
        exact ⟨by rw [hr, this]; rfl, rfl⟩
      · have : decide (x = y) = true := by
          rw [hxy]; revert he; cases decide (x.mn = y.mn) <;> cases decide (x.mx = y.mx) <;> cases decide (x.signs = y.signs) <;> decide
        rw [this, Bool.true_and] at hr
        conv => whnf
        repeat (refine ⟨gP_of ⟨by omega, by omega⟩, ?_⟩; conv => whnf)
        exact ⟨_, by omega, i + 1, rfl, rfl, rfl, by omega, hr⟩
    · rw [drop_nil hd, drop_nil (by omega)] at hr
      conv => whnf
      exact ⟨by rw [hr]; rfl, rfl⟩
/-- more than a statement looks at -/
def clamp (c : Cel) : Int := max 0 (min c.mx 9)
def heavySum : List Cel → Int → Int
  | [], s => s
  | c :: t, s => heavySum t (s + clamp c)
def heavy (l : Lst) (cells : List Cel) (line : List Int) : Bool :=
  (decide (12 < l.signs.length) && decide (l.signs.length ≤ 200)) || (decide (14 < line.length) && decide (line.length ≤ 60)) ||
  (decide (14 < (if cells.length ≤ 40 then heavySum cells 0 else 0)) && decide ((if cells.length ≤ 40 then heavySum cells 0 else 0) ≤ 60))
theorem heavyW (l : Lst) (cells : List Cel) (line : List Int) (hl : LstFit l) (hc : CelsFit cells) (hn : line.length ≤ LMAX) :
    QCall Try.prog 18 [.agg (encLst l), .sl 3 none (cells.map encCel), .sl 1 none (ints line)] [] (.bool (heavy l cells line)) := by
  refine fcalls (F := Try.f18) c18 rfl rfl rfl mixed rfl fun X => ?_
  conv => whnf
  have hcl := hc.len
  refine ⟨fun hd => ?_, fun hd => ?_⟩
  · conv => whnf
    refine ⟨congrArg AV.bool ?_, rfl⟩
    unfold heavy
    have : ((decide (12 < l.signs.length) && decide (l.signs.length ≤ 200)) || (decide (14 < line.length) && decide (line.length ≤ 60))) = true := by
      simp at hd ⊢; omega
    rw [this]; rfl
  · have hpre : ((decide (12 < l.signs.length) && decide (l.signs.length ≤ 200)) || (decide (14 < line.length) && decide (line.length ≤ 60))) = false := by
      simp at hd ⊢; omega
    conv => whnf
    refine sloop rfl mixed [1, 7, 8] [] (fun m r h => ∃ (i : Nat) (s : Int), r = [(1, [], .sl 3 none (cells.map encCel)), (7, [], .int .i64 s), (8, [], .int .i64 i)] ∧ h = [] ∧ m = cells.length - i ∧ i ≤ cells.length ∧ 0 ≤ s ∧ s ≤ 9 * i ∧ (cells.length ≤ 40 → heavySum cells 0 = heavySum (cells.drop i) s) ∧ (¬ cells.length ≤ 40 → s = 0)) ?_ ?_
    · conv => whnf
      exact ⟨_, 0, 0, rfl, rfl, rfl, by omega, by omega, by omega, fun _ => rfl, fun _ => rfl⟩
    · rintro m r h ⟨i, s, rfl, rfl, rfl, hi, hs0, hs1, hr, hr2⟩
      conv => whnf
      refine ⟨fun he => ?_, fun he => ?_⟩ <;> simp at he
      · obtain ⟨c, hx⟩ := get_lt he.1
        have hr := hr (by omega)
        rw [drop_cons hx, heavySum] at hr
        have hcl : 0 ≤ clamp c ∧ clamp c ≤ 9 := by unfold clamp; omega
        conv => whnf
        repeat ((first | refine ⟨gP_of ⟨by omega, by omega⟩, ?_⟩ | refine ix (by assumption) ?_); conv => whnf)
        exact ⟨_, by omega, i + 1, s + clamp c, rfl, rfl, rfl, by omega, by omega, by omega, fun _ => hr, fun h => absurd (show cells.length ≤ 40 by omega) h⟩
      · conv => whnf
        refine ⟨congrArg AV.bool ?_, rfl⟩
        unfold heavy
        rw [hpre, Bool.false_or]
        by_cases h40 : cells.length ≤ 40
        · have hr := hr h40
          rw [drop_nil (by omega)] at hr
          rw [if_pos h40, hr]
          rfl
        · rw [if_neg h40, hr2 h40]
end Go.Abs.Wall
set_option maxRecDepth 100000
set_option linter.unusedVariables false
namespace Go.Abs.Wall
open Go Go.Abs Go.Proofs
/-! ### the cells of a line -/
def mostGo (c : Cel) (ok : List Int → Bool) : List Int → Int → Int → Int
  | [], n, best => if c.mn ≤ n ∧ ok [] = true then n else best
  | s :: t, n, best => if n + 1 ≤ c.mx ∧ allows c s = true then mostGo c ok t (n + 1) (if c.mn ≤ n ∧ ok (s :: t) = true then n else best) else (if c.mn ≤ n ∧ ok (s :: t) = true then n else best)
def most (c : Cel) (ok : List Int → Bool) (l : List Int) : Int := if 0 ≤ c.mx then mostGo c ok l 0 (-1) else -1
def fitB : List Cel → List Int → Bool
  | [], l => l.isEmpty
  | c :: cs, l => decide (0 ≤ most c (fitB cs) l)
def divS : List Cel → List Int → Int → List Int
  | [], _, _ => []
  | c :: cs, l, i => List.replicate (most c (fitB cs) l).toNat i ++ divS cs (l.drop (most c (fitB cs) l).toNat) (i + 1)
def divide (cells : List Cel) (line : List Int) : Option (List Int) := if fitB cells line then some (divS cells line 0) else none
theorem mostGo_le (c : Cel) (ok : List Int → Bool) : ∀ (l : List Int) (n best : Int), best ≤ n + l.length → mostGo c ok l n best ≤ n + l.length ∧ (best ≤ mostGo c ok l n best ∨ n ≤ mostGo c ok l n best)
  | [], n, best, h => by unfold mostGo; split <;> simp at h ⊢ <;> omega
  | s :: t, n, best, h => by
    unfold mostGo
    simp only [List.length_cons] at h ⊢
    split
    · have := mostGo_le c ok t (n + 1) (if c.mn ≤ n ∧ ok (s :: t) = true then n else best) (by split <;> omega)
      refine ⟨by omega, ?_⟩
      rcases this.2 with h1 | h1
      · split at h1 <;> omega
      · omega
    · split <;> omega
theorem most_le (c : Cel) (ok : List Int → Bool) (l : List Int) : -1 ≤ most c ok l ∧ most c ok l ≤ l.length := by
  unfold most
  split
  · have := mostGo_le c ok l 0 (-1) (by omega); omega
  · omega
/-- what the loop comes to from its head on -/
def mostAt (c : Cel) (ok : List Int → Bool) (l : List Int) (n : Nat) (best : Int) : Int :=
  if (n : Int) ≤ c.mx ∧ n ≤ l.length ∧ (n = 0 ∨ allows c (l.getD (n - 1) 0) = true) then mostGo c ok (l.drop n) n best else best
theorem mostAt_succ {c : Cel} {ok : List Int → Bool} {l : List Int} {n : Nat} {best : Int} (hn : n ≤ l.length) : mostGo c ok (l.drop n) n best = mostAt c ok l (n + 1) (if c.mn ≤ n ∧ ok (l.drop n) = true then n else best) := by
  unfold mostAt
  by_cases h : n < l.length
  · have hd := List.drop_eq_getElem_cons h
    rw [hd, mostGo]
    simp only [Nat.add_sub_cancel, List.getD, List.getElem?_eq_getElem h, Option.getD_some]
    simp only [show (n + 1 ≤ l.length) = True by simp; omega, show (n + 1 = 0) = False by simp, true_and, false_or]
    rw [show ((n + 1 : Nat) : Int) = (n : Int) + 1 by omega]
  · rw [drop_nil (by omega), mostGo]
    symm
    apply if_neg
    omega
structure CelsOK (cells : List Cel) : Prop where
  len : cells.length ≤ 40
  each : ∀ c ∈ cells, 0 ≤ c.mn ∧ c.mn ≤ c.mx ∧ c.mx ≤ 9 ∧ c.signs.length ≤ 1048576
/-- the table's row of a cell -/
def rowB (cells : List Cel) (line : List Int) (i : Nat) : List Bool := (List.range (line.length + 1)).map fun p => fitB (cells.drop i) (line.drop p)
def rowV (cells : List Cel) (line : List Int) (i : Nat) : AV := .sl 1 none ((rowB cells line i).map fun b => [AV.bool b])
theorem rowB_get {cells : List Cel} {line : List Int} {i p : Nat} (hp : p ≤ line.length) : (rowB cells line i)[p]? = some (fitB (cells.drop i) (line.drop p)) := by
  unfold rowB
  rw [List.getElem?_map, List.getElem?_range (by omega)]
  rfl
def c93 : Cfg := ⟨[0, 1, 2, 3, 4, 7, 8, 9, 24, 43, 62], [], [], [], [(5, [0, 1, 2, 3, 4, 5, 6, 7, 8, 9, 10, 11, 12, 13, 14, 15, 16], [])], []⟩
theorem divide1 (cells : List Cel) (line : List Int) (i p : Nat) (b : Nat) (rows : List AV) (hh : Heap) (hc : CelsOK cells) (hl : line.length ≤ 60) (hi : i < cells.length) (hp : p ≤ line.length) (hm : (b, Ob.vec rows) ∈ hh) (hrl : rows.length = cells.length + 1) (hrow : rows[i + 1]? = some (rowV cells line (i + 1))) :
    QCall Try.prog 93 [.int .i64 i, .int .i64 p, .iptr [.sl 3 none (cells.map encCel)], .iptr [.sl 1 none (ints line)], .iptr [.osl b 0 (cells.length + 1) 1]] hh (.int .i64 (most (cells[i]) (fitB (cells.drop (i + 1))) (line.drop p))) := by
  refine fcalls (F := Try.f93) c93 rfl rfl rfl mixed rfl fun X => ?_
  conv => whnf
  have hx : cells[i]? = some cells[i] := List.getElem?_eq_getElem hi
  obtain ⟨c, hce⟩ : ∃ c, c = cells[i] := ⟨_, rfl⟩
  rw [← hce] at hx ⊢
  have hv := hc.each c (List.mem_of_getElem? hx)
  have hcl := hc.len
  refine sloop rfl mixed [0, 1, 2, 3, 4, 8, 9] [] (fun m r h => ∃ (n : Nat) (best : Int), r = [(0, [], .int .i64 i), (1, [], .int .i64 p), (2, [], .iptr [.sl 3 none (cells.map encCel)]), (3, [], .iptr [.sl 1 none (ints line)]), (4, [], .iptr [.osl b 0 (cells.length + 1) 1]), (8, [], .int .i64 best), (9, [], .int .i64 n)] ∧ h = hh ∧ m = 62 - n ∧ n ≤ 61 ∧ most c (fitB (cells.drop (i + 1))) (line.drop p) = mostAt c (fitB (cells.drop (i + 1))) (line.drop p) n best) ?_ ?_
  · conv => whnf
    refine ⟨_, 0, -1, rfl, rfl, rfl, by omega, ?_⟩
    unfold most mostAt
    simp
  · rintro m r h' ⟨n, best, rfl, rfl, rfl, hn, hr⟩
    conv => whnf
    repeat ((first | refine ⟨gP_of ⟨by omega, by omega⟩, ?_⟩ | refine ix (by assumption) ?_); conv => whnf)
    have hdl : (line.drop p).length = line.length - p := by simp
    refine ⟨fun hc1 => ?_, fun hc1 => ?_⟩ <;> simp at hc1
    · have hgd : n ≠ 0 → line.getD ((p : Int) + (n : Int) - 1).toNat 0 = (line.drop p).getD (n - 1) 0 := by
        intro h0
        rw [show ((p : Int) + (n : Int) - 1).toNat = p + (n - 1) by omega]
        simp [List.getD]
      conv => whnf
      repeat ((first | refine ⟨gP_of ⟨by omega, by omega⟩, ?_⟩ | refine ix (by assumption) ?_ | (refine ixg 0 ?_ ?_; (conv => whnf); (intro h1; have h1 := of_decide_eq_true h1; show 0 ≤ _ ∧ _ < _; omega))
                     | refine gcall (allowsW c _ (by unfold LMAX; omega)) ?_ | refine And.intro (by show drawOK (opsAt Try.f93 _) _ = true; decide +kernel) ?_); conv => whnf)
      refine ⟨fun hc2 => ?_, fun hc2 => ?_⟩
      · simp only [Bool.and_eq_true, decide_eq_true_eq, Bool.not_eq_true'] at hc2
        have hR : most c (fitB (cells.drop (i + 1))) (line.drop p) = best := by
          rw [hr]
          unfold mostAt
          rw [if_neg]
          rintro ⟨_, _, h0 | h0⟩
          · omega
          · rw [← hgd (by omega), hc2.2] at h0
            cases h0
        conv => whnf
        exact ⟨by rw [hR], rfl⟩
      · simp only [Bool.and_eq_false_iff, decide_eq_false_iff_not, Bool.not_eq_false'] at hc2
        have hR : most c (fitB (cells.drop (i + 1))) (line.drop p) = mostAt c (fitB (cells.drop (i + 1))) (line.drop p) (n + 1) (if c.mn ≤ n ∧ fitB (cells.drop (i + 1)) (line.drop (p + n)) = true then n else best) := by
          have : mostAt c (fitB (cells.drop (i + 1))) (line.drop p) n best = mostGo c (fitB (cells.drop (i + 1))) ((line.drop p).drop n) n best := by
            unfold mostAt
            rw [if_pos]
            refine ⟨hc1.1, by omega, ?_⟩
            by_cases h0 : n = 0
            · exact .inl h0
            · rw [← hgd h0]
              exact .inr (hc2.resolve_left (by omega))
          rw [hr, this, mostAt_succ (by omega), List.drop_drop]
        have hgr : (rowB cells line (i + 1)).getD ((p : Int) + (n : Int)).toNat false = fitB (cells.drop (i + 1)) (line.drop (p + n)) := by
          rw [show ((p : Int) + (n : Int)).toNat = p + n by omega]
          simp [List.getD, rowB_get (show p + n ≤ line.length by omega)]
        conv => whnf
        repeat ((first | refine ⟨gP_of ⟨by omega, by omega⟩, ?_⟩ | refine ix (by assumption) ?_ | (refine ixog ?_ ?_; (conv => whnf); (intro h1; show 0 ≤ _ ∧ _ < _; omega)) | (refine ldo hm rfl (v := rowV cells line (i + 1)) (by simpa using hrow) ?_)
                       | (refine ixg false ?_ ?_; (conv => whnf); (intro h1; show 0 ≤ _ ∧ _ < _; simp [rowB] <;> omega))); conv => whnf)
        rw [hgr]
        refine ⟨fun hc3 => ?_, fun hc3 => ?_⟩
        · simp only [Bool.and_eq_true, decide_eq_true_eq] at hc3
          rw [if_pos hc3] at hR
          conv => whnf
          repeat (refine ⟨gP_of ⟨by omega, by omega⟩, ?_⟩; conv => whnf)
          exact ⟨_, by omega, n + 1, n, rfl, rfl, rfl, by omega, hR⟩
        · rw [if_neg (by intro h; rw [h.2] at hc3; simp at hc3; omega)] at hR
          conv => whnf
          repeat (refine ⟨gP_of ⟨by omega, by omega⟩, ?_⟩; conv => whnf)
          exact ⟨_, by omega, n + 1, best, rfl, rfl, rfl, by omega, hR⟩
    · have hR : most c (fitB (cells.drop (i + 1))) (line.drop p) = best := by
        rw [hr]
        unfold mostAt
        rw [if_neg (by omega)]
      conv => whnf
      exact ⟨by rw [hR], rfl⟩
theorem rowV_eq (cells : List Cel) (line : List Int) (i : Nat) : rowV cells line i = .sl 1 none ((List.range (line.length + 1)).map fun p => [AV.bool (fitB (cells.drop i) (line.drop p))]) := by
  unfold rowV rowB
  rw [List.map_map]
  rfl
theorem fitB_drop {cells : List Cel} {i : Nat} {l : List Int} (h : i < cells.length) : fitB (cells.drop i) l = decide (0 ≤ most cells[i] (fitB (cells.drop (i + 1))) l) := by
  rw [List.drop_eq_getElem_cons h]; rfl
theorem fzRowV {cells : List Cel} {line : List Int} {i b : Nat} {f : Nat → AV} (h : ∀ j, j < line.length + 1 → f j = .bool (fitB (cells.drop i) (line.drop j))) : FzV b (rowsF (line.length + 1) f) (.osl b 0 (line.length + 1) 1) (rowV cells line i) := by
  rw [rowV_eq]
  refine fzF ?_
  exact List.map_congr_left fun j hj => by rw [h j (List.mem_range.1 hj)]
def c60 : Cfg := ⟨[0, 1, 2, 3, 4, 5, 6, 7, 8, 9, 10, 36, 50, 51, 52, 71, 73, 74, 75, 81, 82, 83], [], [6], [], [(2, [0, 1, 2, 3, 4, 5, 6, 7, 8], []), (3, [0, 1, 2, 3, 4, 5, 6, 7, 8], []), (8, [0, 1, 2, 3, 4, 5, 6, 7], []), (12, [0, 1, 2, 3, 4, 5, 6, 7, 8, 9, 10, 11], [])], []⟩
set_option maxHeartbeats 1000000 in
theorem divideW (cells : List Cel) (line : List Int) (hc : CelsOK cells) (hl : line.length ≤ 60) :
    QCall Try.prog 60 [.sl 3 none (cells.map encCel), .sl 1 none (ints line)] [] (.tup [.sl 1 none (ints ((divide cells line).getD [])), .bool (divide cells line).isSome]) := by
  refine QCall.of (fcalls (F := Try.f60) c60 rfl rfl rfl mixed rfl fun X => ?_)
  conv => whnf
  have hcl := hc.len
  have e3 : (cells.map encCel).length = cells.length := by simp
  have e4 : (ints line).length = line.length := by simp
  have e1 : (((cells.map encCel).length : Int) + 1).toNat = cells.length + 1 := by omega
  have e2 : (((ints line).length : Int) + 1).toNat = line.length + 1 := by omega
  repeat (refine ⟨gP_of ⟨by omega, by omega⟩, ?_⟩; conv => whnf)
  refine ⟨⟨rfl, by omega, by omega⟩, ?_⟩
  intro bO
  conv => whnf
  rw [e1, repC_F]
  intro bF
  conv => whnf
  repeat ((first | refine ⟨gP_of ⟨by omega, by omega⟩, ?_⟩ | refine ⟨_, _, Rem.here _, ⟨Nat.le_of_ble_eq_true rfl, rfl⟩, ?_⟩ | refine And.intro (by show drawOK (opsAt Try.f60 _) _ = true; decide +kernel) ?_); conv => whnf)
  refine ⟨⟨rfl, by omega, by omega⟩, ?_⟩
  intro bR
  conv => whnf
  rw [e2, repC_F]
  refine ixo (by omega) ?_
  conv => whnf
  refine stoF (by simp <;> omega) (.there (.here _)) ?_
  conv => whnf
  repeat ((first | refine ⟨gP_of ⟨by omega, by omega⟩, ?_⟩ | (refine ixo (by omega) ?_) | (refine ldoF (.osl bR 0 (line.length + 1) 1) (.tail _ (.head _)) rfl (by simp <;> omega) (by simp) ?_)
                 | (refine stoF (by simp <;> omega) (.here _) ?_) | refine And.intro (by show drawOK (opsAt Try.f60 _) _ = true; decide +kernel) ?_); conv => whnf)
  rw [e3, e4]
  refine tloop rfl mixed [2, 3, 4, 6, 7, 8] [] (fun m r h => ∃ (i : Nat), r = [(2, [], .iptr [.sl 3 none (cells.map encCel)]), (3, [], .iptr [.sl 1 none (ints line)]), (4, [], .nilS), (6, [], .iptr [.osl bO 0 (cells.length + 1) 1]), (7, [], .fn 93 [.iptr [.sl 3 none (cells.map encCel)], .iptr [.sl 1 none (ints line)], .iptr [.osl bO 0 (cells.length + 1) 1]]), (8, [], .int .i64 ((i : Int) - 1))] ∧ h = [(bO, .vec (rowsF (cells.length + 1) fun j => if j < i then .nilS else rowV cells line j))] ∧ m = i ∧ i ≤ cells.length) ?_ ?_
  · conv => whnf
    refine ⟨_, _, Turn.freeze (.here _) (.vec (FzVs.ofF fun j hj => ?_) .nil) (FzR.refl _), _, cells.length, rfl, rfl, rfl, Nat.le_refl _⟩
    by_cases hj' : j = cells.length
    · subst hj'
      simp only [Nat.zero_add, List.length_singleton, Nat.mul_one, if_true, Nat.lt_irrefl, if_false]
      refine fzRowV fun k hk => ?_
      rw [List.drop_length]
      by_cases hk' : k = line.length
      · subst hk'; simp [fitB]
      · rw [if_neg hk']
        cases h : line.drop k with
        | nil => have := List.drop_eq_nil_iff.1 h; omega
        | cons => rfl
    · rw [if_neg (by simpa using hj'), if_pos (by omega)]
      exact .refl _
  · rintro i r h ⟨_, rfl, rfl, rfl, hi⟩
    conv => whnf
    refine ⟨fun hc1 => ?_, fun hc1 => ?_⟩ <;> simp at hc1
    · obtain ⟨i, rfl⟩ : ∃ k, i = k + 1 := ⟨i - 1, by omega⟩
      rw [show (((i + 1 : Nat) : Int) - 1) = (i : Int) by omega]
      conv => whnf
      repeat ((first | refine ⟨gP_of ⟨by omega, by omega⟩, ?_⟩ | refine And.intro (by show drawOK (opsAt Try.f60 _) _ = true; decide +kernel) ?_); conv => whnf)
      refine ⟨⟨rfl, by omega, by omega⟩, ?_⟩
      intro bR
      conv => whnf
      rw [e2, repC_F]
      refine ixo (by omega) ?_
      conv => whnf
      refine stoF (by simp <;> omega) (.there (.here _)) ?_
      conv => whnf
      repeat ((first | (refine ixo (by omega) ?_) | (refine ldoF (.osl bR 0 (line.length + 1) 1) (.tail _ (.head _)) rfl (by simp <;> omega) (by simp) ?_)); conv => whnf)
      refine sloop rfl mixed [2, 3, 4, 6, 7, 8, 50, 51] [] (fun m r h => ∃ (p : Nat), r = [(2, [], .iptr [.sl 3 none (cells.map encCel)]), (3, [], .iptr [.sl 1 none (ints line)]), (4, [], .nilS), (6, [], .iptr [.osl bO 0 (cells.length + 1) 1]), (7, [], .fn 93 [.iptr [.sl 3 none (cells.map encCel)], .iptr [.sl 1 none (ints line)], .iptr [.osl bO 0 (cells.length + 1) 1]]), (8, [], .int .i64 i), (50, [], .int .i64 (line.length + 1 : Nat)), (51, [], .int .i64 p)] ∧ h = [(bR, .vec (rowsF (line.length + 1) fun q => if q < p then .bool (fitB (cells.drop i) (line.drop q)) else .bool false)), (bO, .vec (rowsF (cells.length + 1) fun j => if j = i then .osl bR 0 (line.length + 1) 1 else if j < i then .nilS else rowV cells line j))] ∧ m = line.length + 1 - p ∧ p ≤ line.length + 1) ?_ ?_
      · conv => whnf
        refine ⟨_, 0, rfl, heap2 (rowsF_congr fun j hj => by simp) (rowsF_congr fun j hj => ?_), rfl, by omega⟩
        simp only [Nat.zero_add, List.length_singleton, Nat.mul_one]
        by_cases hj : j = i
        · rw [if_pos hj, if_pos hj]
        · rw [if_neg hj, if_neg hj]
          by_cases hji : j < i
          · rw [if_pos hji, if_pos (by omega)]
          · rw [if_neg hji, if_neg (by omega)]
      · rintro m r h ⟨p, rfl, rfl, rfl, hp⟩
        conv => whnf
        refine ⟨fun hc2 => ?_, fun hc2 => ?_⟩ <;> simp at hc2
        · have hcall := divide1 cells line i p bO (rowsF (cells.length + 1) fun j => if j = i then .osl bR 0 (line.length + 1) 1 else if j < i then .nilS else rowV cells line j) [(bR, .vec (rowsF (line.length + 1) fun q => if q < p then .bool (fitB (cells.drop i) (line.drop q)) else .bool false)), (bO, .vec (rowsF (cells.length + 1) fun j => if j = i then .osl bR 0 (line.length + 1) 1 else if j < i then .nilS else rowV cells line j))] hc hl (by omega) (by omega) (by simp) (by simp) (by rw [rowsF_get (by omega), if_neg (by omega), if_neg (by omega)])
          conv => whnf
          repeat ((first | refine ⟨gP_of ⟨by omega, by omega⟩, ?_⟩ | (refine ixo (by omega) ?_) | (refine ldoF (.osl bR 0 (line.length + 1) 1) (.tail _ (.head _)) rfl (by simp <;> omega) (by simp) ?_)
                         | (refine gcallH hcall ?_) | (refine stoF (by simp <;> omega) (.here _) ?_) | refine And.intro (by show drawOK (opsAt Try.f60 _) _ = true; decide +kernel) ?_); conv => whnf)
          refine ⟨_, by omega, p + 1, rfl, heap2 (rowsF_congr fun j hj => ?_) rfl, rfl, by omega⟩
          rw [Nat.zero_add, Nat.mul_one]
          by_cases hjp : j = p
          · subst hjp
            rw [if_pos rfl, if_pos (by omega), fitB_drop (by omega)]
          · rw [if_neg hjp]
            by_cases hj2 : j < p
            · rw [if_pos hj2, if_pos (by omega)]
            · rw [if_neg hj2, if_neg (by omega)]
        · conv => whnf
          repeat (refine ⟨gP_of ⟨by omega, by omega⟩, ?_⟩; conv => whnf)
          refine ⟨_, _, Turn.freeze (.here _) (.vec (FzVs.ofF fun j hj => ?_) .nil) (FzR.refl _), _, by omega, i, rfl, rfl, rfl, by omega⟩
          by_cases hj' : j = i
          · subst hj'
            rw [if_pos rfl, if_neg (by omega)]
            exact fzRowV fun k hk => by rw [if_pos (by omega)]
          · rw [if_neg hj']
            exact .refl _
    · obtain rfl : i = 0 := by omega
      have hg0 : (rowB cells line 0).getD (Int.toNat 0) false = fitB cells line := by
        rw [show Int.toNat 0 = 0 from rfl]
        simp [List.getD, rowB_get (show 0 ≤ line.length by omega)]
      conv => whnf
      repeat ((first | (refine ixog ?_ ?_; (conv => whnf); (show 0 ≤ _ ∧ _ < _; omega)) | (refine ldoF (rowV cells line 0) (.head _) rfl (by simp) (by simp) ?_) | (refine ixg false ?_ ?_; (conv => whnf); (show 0 ≤ _ ∧ _ < _; simp [rowB] <;> omega))); conv => whnf)
      rw [hg0]
      refine ⟨fun hc2 => ?_, fun hc2 => ?_⟩ <;> simp at hc2
      · have : divide cells line = none := by unfold divide; rw [hc2]; rfl
        conv => whnf
        rw [this]
        exact VLe.tup (.cons (VLe.nil (k := 1) (by decide)) (VsLe.refl _))
      have hdv : divide cells line = some (divS cells line 0) := by unfold divide; rw [hc2]; rfl
      conv => whnf
      refine sloop rfl mixed [4, 7, 73, 74] [(4, 1)] (fun m r h => ∃ (i : Nat) (out : List Int) (q : Nat), r = [(4, [], .sl 1 (some q) (ints out)), (7, [], .fn 93 [.iptr [.sl 3 none (cells.map encCel)], .iptr [.sl 1 none (ints line)], .iptr [.osl bO 0 (cells.length + 1) 1]]), (73, [], .int .i64 (cells.map encCel).length), (74, [], .int .i64 i)] ∧ h = [(q, .tok), (bO, .vec (rowsF (cells.length + 1) fun j => if j < 0 then .nilS else rowV cells line j))] ∧ m = cells.length - i ∧ i ≤ cells.length ∧ out.length ≤ line.length ∧ divS cells line 0 = out ++ divS (cells.drop i) (line.drop out.length) i) ?_ ?_
      · conv => whnf
        refine ⟨by decide, fun q => ?_⟩
        conv => whnf
        exact ⟨_, 0, [], q, rfl, rfl, rfl, by omega, by simp, rfl⟩
      · rintro m r h ⟨i, out, q, rfl, rfl, rfl, hi2, ho, hr⟩
        conv => whnf
        refine ⟨fun hc3 => ?_, fun hc3 => ?_⟩ <;> simp at hc3
        · have hcall := divide1 cells line i out.length bO (rowsF (cells.length + 1) fun j => if j < 0 then .nilS else rowV cells line j) [(q, .tok), (bO, .vec (rowsF (cells.length + 1) fun j => if j < 0 then .nilS else rowV cells line j))] hc hl hc3 ho (by simp) (by simp) (by rw [rowsF_get (by omega), if_neg (by omega)])
          rw [← ints_length out] at hcall
          conv => whnf
          repeat ((refine QCall.k hcall ?_); conv => whnf)
          clear hcall
          have hml := most_le cells[i] (fitB (cells.drop (i + 1))) (line.drop out.length)
          rw [drop_cons (List.getElem?_eq_getElem hc3), divS] at hr
          rw [← ints_length out] at hml hr
          generalize most cells[i] (fitB (List.drop (i + 1) cells)) (List.drop (ints out).length line) = N at hml hr ⊢
          rw [ints_length] at hml hr
          simp only [List.length_drop] at hml
          refine sloop rfl mixed [4, 7, 10, 73, 74, 81, 82] [] (fun m r h => ∃ (k : Nat) (q : Nat), r = [(4, [], .sl 1 (some q) (ints (out ++ List.replicate k (i : Int)))), (7, [], .fn 93 [.iptr [.sl 3 none (cells.map encCel)], .iptr [.sl 1 none (ints line)], .iptr [.osl bO 0 (cells.length + 1) 1]]), (10, [], .int .i64 i), (73, [], .int .i64 (cells.map encCel).length), (74, [], .int .i64 i), (81, [], .int .i64 N), (82, [], .int .i64 k)] ∧ h = [(q, .tok), (bO, .vec (rowsF (cells.length + 1) fun j => if j < 0 then .nilS else rowV cells line j))] ∧ m = N.toNat - k ∧ k ≤ N.toNat) ?_ ?_
          · conv => whnf
            exact ⟨_, 0, q, by rw [List.replicate_zero, List.append_nil]; rfl, rfl, rfl, by omega⟩
          · rintro m r h ⟨k, q, rfl, rfl, rfl, hk⟩
            conv => whnf
            refine ⟨fun hc4 => ?_, fun hc4 => ?_⟩ <;> simp only [decide_eq_true_eq, decide_eq_false_iff_not] at hc4
            · conv => whnf
              repeat ((first | refine ⟨gP_of ⟨by omega, by omega⟩, ?_⟩ | (refine ⟨(by rw [List.length_append, ints_length, List.length_append, List.length_replicate]; show _ + 1 ≤ 4294967296; omega), fun q' => ⟨_, .here _, ?_⟩⟩)); conv => whnf)
              exact ⟨_, by omega, k + 1, q', by rw [List.replicate_succ', ← List.append_assoc]; unfold ints; rw [List.map_append (l₂ := [(i : Int)])]; rfl, rfl, rfl, by omega⟩
            · conv => whnf
              repeat (refine ⟨gP_of ⟨by omega, by omega⟩, ?_⟩; conv => whnf)
              refine ⟨_, by omega, i + 1, out ++ List.replicate k (i : Int), q, rfl, rfl, rfl, by omega, by simp; omega, ?_⟩
              rw [hr, show k = N.toNat by omega, List.append_assoc, List.drop_drop, List.length_append, List.length_replicate]
              rfl
        · rw [drop_nil (by omega), divS, List.append_nil] at hr
          conv => whnf
          rw [hdv, hr]
          exact VLe.tup (.cons VLe.sl (VsLe.refl _))
end Go.Abs.Wall
set_option maxRecDepth 100000
set_option linter.unusedVariables false
namespace Go.Abs.Wall
open Go Go.Abs Go.Proofs
/-! ### the specification's table and Divide -/
def tableV (cells : List Cel) (line : List Int) : AV := .sl 1 none ((List.range (cells.length + 1)).map fun i => [rowV cells line i])
def c95 : Cfg := ⟨[0, 1, 4, 5, 6, 7, 8, 16, 29, 35, 60, 79, 98], [], [], [], [(14, [0, 1, 2, 3, 4, 5, 6, 7, 8, 9, 10, 11, 12, 13, 14, 15, 16], [])], []⟩
set_option maxHeartbeats 1000000 in
theorem tableR (cells : List Cel) (line : List Int) (hc : CelsOK cells) (hl : line.length ≤ 60) :
    QCall Try.prog 95 [.sl 3 none (cells.map encCel), .sl 1 none (ints line)] [] (tableV cells line) := by
  refine ACalls.frz (R := fun v h => ∃ b, v = .osl b 0 (cells.length + 1) 1 ∧ h = [(b, .vec (rowsF (cells.length + 1) (rowV cells line)))]) (fcalls (F := Try.f95) c95 rfl rfl rfl mixed rfl fun X => ?_) ?_
  rotate_left
  · rintro v h1 ⟨b, rfl, rfl⟩
    exact ⟨b, _, [], [], _, .here _, .nil, fzF rfl, rfl, rfl⟩
  have hcl := hc.len
  have e3 : (cells.map encCel).length = cells.length := by simp
  have e4 : (ints line).length = line.length := by simp
  have e1 : (((cells.map encCel).length : Int) + 1).toNat = cells.length + 1 := by omega
  have e2 : (((ints line).length : Int) + 1).toNat = line.length + 1 := by omega
  conv => whnf
  repeat (refine ⟨gP_of ⟨by omega, by omega⟩, ?_⟩; conv => whnf)
  refine ⟨⟨rfl, by omega, by omega⟩, ?_⟩
  intro bO
  conv => whnf
  rw [e1, repC_F]
  rw [e3]
  refine tloop rfl mixed [0, 1, 5, 6] [] (fun m r h => ∃ (i : Nat), r = [(0, [], .sl 3 none (cells.map encCel)), (1, [], .sl 1 none (ints line)), (5, [], .osl bO 0 (cells.length + 1) 1), (6, [], .int .i64 ((i : Int) - 1))] ∧ h = [(bO, .vec (rowsF (cells.length + 1) fun j => if j < i then .nilS else rowV cells line j))] ∧ m = i ∧ i ≤ cells.length + 1) ?_ ?_
  · conv => whnf
    refine ⟨_, _, Turn.refl _ _, _, cells.length + 1, ?_, ?_, rfl, Nat.le_refl _⟩
    · rw [show (((cells.length + 1 : Nat) : Int) - 1) = (cells.length : Int) by omega]; rfl
    · rw [rowsF_congr (g := fun j => if j < cells.length + 1 then .nilS else rowV cells line j) fun j hj => by rw [if_pos hj]]
  · rintro i r h ⟨_, rfl, rfl, rfl, hi⟩
    conv => whnf
    refine ⟨fun hc1 => ?_, fun hc1 => ?_⟩ <;> simp at hc1
    · obtain ⟨i, rfl⟩ : ∃ k, i = k + 1 := ⟨i - 1, by omega⟩
      rw [show (((i + 1 : Nat) : Int) - 1) = (i : Int) by omega]
      conv => whnf
      repeat (refine ⟨gP_of ⟨by omega, by omega⟩, ?_⟩; conv => whnf)
      refine ⟨⟨rfl, by omega, by omega⟩, ?_⟩
      intro bR
      conv => whnf
      rw [e2, repC_F]
      refine ixo (by omega) ?_
      conv => whnf
      refine stoF (by simp <;> omega) (.there (.here _)) ?_
      conv => whnf
      refine sloop rfl mixed [0, 1, 5, 6, 7] [] (fun m r h => ∃ (p : Nat), r = [(0, [], .sl 3 none (cells.map encCel)), (1, [], .sl 1 none (ints line)), (5, [], .osl bO 0 (cells.length + 1) 1), (6, [], .int .i64 i), (7, [], .int .i64 p)] ∧ h = [(bR, .vec (rowsF (line.length + 1) fun q => if q < p then .bool (fitB (cells.drop i) (line.drop q)) else .bool false)), (bO, .vec (rowsF (cells.length + 1) fun j => if j = i then .osl bR 0 (line.length + 1) 1 else if j < i then .nilS else rowV cells line j))] ∧ m = line.length + 1 - p ∧ p ≤ line.length + 1) ?_ ?_
      · conv => whnf
        refine ⟨_, 0, rfl, heap2 (rowsF_congr fun j hj => by simp) (rowsF_congr fun j hj => ?_), rfl, by omega⟩
        simp only [Nat.zero_add, List.length_singleton, Nat.mul_one]
        by_cases hj : j = i
        · rw [if_pos hj, if_pos hj]
        · rw [if_neg hj, if_neg hj]
          by_cases hji : j < i
          · rw [if_pos hji, if_pos (by omega)]
          · rw [if_neg hji, if_neg (by omega)]
      · rintro m r h ⟨p, rfl, rfl, rfl, hp⟩
        conv => whnf
        refine ⟨fun hc2 => ?_, fun hc2 => ?_⟩ <;> simp at hc2
        · conv => whnf
          rw [e3]
          refine ⟨fun hc3 => ?_, fun hc3 => ?_⟩ <;> simp at hc3
          · obtain rfl : i = cells.length := by omega
            conv => whnf
            repeat ((first | refine ⟨gP_of ⟨by omega, by omega⟩, ?_⟩ | (refine ixo (by omega) ?_) | (refine ldoF (.osl bR 0 (line.length + 1) 1) (.tail _ (.head _)) rfl (by simp <;> omega) (by simp) ?_)
                           | (refine stoF (by simp <;> omega) (.here _) ?_)); conv => whnf)
            refine ⟨_, by omega, p + 1, rfl, heap2 (rowsF_congr fun j hj => ?_) rfl, rfl, by omega⟩
            rw [Nat.zero_add, Nat.mul_one]
            by_cases hjp : j = p
            · subst hjp
              rw [if_pos rfl, if_pos (by omega), List.drop_length]
              congr 1
              unfold fitB
              rw [e4]
              by_cases hjl : j = line.length
              · subst hjl; simp
              · cases h : line.drop j with
                | nil => have := List.drop_eq_nil_iff.1 h; omega
                | cons => simp; omega
            · rw [if_neg hjp]
              by_cases hj2 : j < p
              · rw [if_pos hj2, if_pos (by omega)]
              · rw [if_neg hj2, if_neg (by omega)]
          · have hx : cells[i]? = some (cells[i]'(by omega)) := List.getElem?_eq_getElem (by omega)
            obtain ⟨c, hce⟩ : ∃ c, c = cells[i]'(by omega) := ⟨_, rfl⟩
            rw [← hce] at hx
            have hv := hc.each c (List.mem_of_getElem? hx)
            have hfd : fitB (cells.drop i) (line.drop p) = decide (0 ≤ most c (fitB (cells.drop (i + 1))) (line.drop p)) := by rw [fitB_drop (by omega), hce]
            conv => whnf
            refine sloop rfl mixed [0, 1, 5, 6, 7, 8] [] (fun m r h => ∃ (n : Nat) (best : Int), r = [(0, [], .sl 3 none (cells.map encCel)), (1, [], .sl 1 none (ints line)), (5, [], .osl bO 0 (cells.length + 1) 1), (6, [], .int .i64 i), (7, [], .int .i64 p), (8, [], .int .i64 n)] ∧ h = [(bR, .vec (rowsF (line.length + 1) fun q => if q = p then .bool (decide (0 ≤ best)) else if q < p then .bool (fitB (cells.drop i) (line.drop q)) else .bool false)), (bO, .vec (rowsF (cells.length + 1) fun j => if j = i then .osl bR 0 (line.length + 1) 1 else if j < i then .nilS else rowV cells line j))] ∧ m = 62 - n ∧ n ≤ 61 ∧ most c (fitB (cells.drop (i + 1))) (line.drop p) = mostAt c (fitB (cells.drop (i + 1))) (line.drop p) n best) ?_ ?_
            · conv => whnf
              refine ⟨_, 0, -1, rfl, heap2 (rowsF_congr fun j hj => ?_) rfl, rfl, by omega, ?_⟩
              · by_cases hjp : j = p
                · subst hjp; rw [if_pos rfl, if_neg (by omega)]; rfl
                · rw [if_neg hjp]
              · unfold most mostAt; simp
            · rintro m r h' ⟨n, best, rfl, rfl, rfl, hn, hr⟩
              have hdone : most c (fitB (cells.drop (i + 1))) (line.drop p) = best → (rowsF (line.length + 1) fun q => if q = p then .bool (decide (0 ≤ best)) else if q < p then .bool (fitB (cells.drop i) (line.drop q)) else .bool false) = rowsF (line.length + 1) fun q => if q < p + 1 then .bool (fitB (cells.drop i) (line.drop q)) else .bool false := by
                intro hR
                refine rowsF_congr fun j hj => ?_
                by_cases hjp : j = p
                · subst hjp
                  rw [if_pos rfl, if_pos (by omega), hfd, hR]
                · rw [if_neg hjp]
                  by_cases hj2 : j < p
                  · rw [if_pos hj2, if_pos (by omega)]
                  · rw [if_neg hj2, if_neg (by omega)]
              conv => whnf
              repeat ((first | refine ⟨gP_of ⟨by omega, by omega⟩, ?_⟩ | refine ix (by assumption) ?_); conv => whnf)
              have hdl : (line.drop p).length = line.length - p := by simp
              refine ⟨fun hc1 => ?_, fun hc1 => ?_⟩ <;> simp at hc1
              · have hgd : n ≠ 0 → line.getD ((p : Int) + (n : Int) - 1).toNat 0 = (line.drop p).getD (n - 1) 0 := by
                  intro h0
                  rw [show ((p : Int) + (n : Int) - 1).toNat = p + (n - 1) by omega]
                  simp [List.getD]
                conv => whnf
                repeat ((first | refine ⟨gP_of ⟨by omega, by omega⟩, ?_⟩ | refine ix (by assumption) ?_ | (refine ixg 0 ?_ ?_; (conv => whnf); (intro h1; have h1 := of_decide_eq_true h1; show 0 ≤ _ ∧ _ < _; omega))
                               | refine gcall (allowsR c _ (by unfold LMAX; omega)) ?_ | refine And.intro (by show drawOK (opsAt Try.f95 _) _ = true; decide +kernel) ?_); conv => whnf)
                refine ⟨fun hc2 => ?_, fun hc2 => ?_⟩
                · simp only [Bool.and_eq_true, decide_eq_true_eq, Bool.not_eq_true'] at hc2
                  have hR : most c (fitB (cells.drop (i + 1))) (line.drop p) = best := by
                    rw [hr]
                    unfold mostAt
                    rw [if_neg]
                    rintro ⟨_, _, h0 | h0⟩
                    · omega
                    · rw [← hgd (by omega), hc2.2] at h0
                      cases h0
                  conv => whnf
                  repeat (refine ⟨gP_of ⟨by omega, by omega⟩, ?_⟩; conv => whnf)
                  exact ⟨_, by omega, p + 1, rfl, heap2 (hdone hR) rfl, rfl, by omega⟩
                · simp only [Bool.and_eq_false_iff, decide_eq_false_iff_not, Bool.not_eq_false'] at hc2
                  have hR : most c (fitB (cells.drop (i + 1))) (line.drop p) = mostAt c (fitB (cells.drop (i + 1))) (line.drop p) (n + 1) (if c.mn ≤ n ∧ fitB (cells.drop (i + 1)) (line.drop (p + n)) = true then n else best) := by
                    have : mostAt c (fitB (cells.drop (i + 1))) (line.drop p) n best = mostGo c (fitB (cells.drop (i + 1))) ((line.drop p).drop n) n best := by
                      unfold mostAt
                      rw [if_pos]
                      refine ⟨hc1.1, by omega, ?_⟩
                      by_cases h0 : n = 0
                      · exact .inl h0
                      · rw [← hgd h0]
                        exact .inr (hc2.resolve_left (by omega))
                    rw [hr, this, mostAt_succ (by omega), List.drop_drop]
                  have hgr : (rowB cells line (i + 1)).getD ((p : Int) + (n : Int)).toNat false = fitB (cells.drop (i + 1)) (line.drop (p + n)) := by
                    rw [show ((p : Int) + (n : Int)).toNat = p + n by omega]
                    simp [List.getD, rowB_get (show p + n ≤ line.length by omega)]
                  conv => whnf
                  repeat ((first | refine ⟨gP_of ⟨by omega, by omega⟩, ?_⟩ | refine ix (by assumption) ?_ | (refine ixog ?_ ?_; (conv => whnf); (intro h1; show 0 ≤ _ ∧ _ < _; omega)) | (refine ldoF (rowV cells line (i + 1)) (.tail _ (.head _)) rfl (by simp <;> omega) (by simp <;> (intro h; omega)) ?_)
                                 | (refine ixg false ?_ ?_; (conv => whnf); (intro h1; show 0 ≤ _ ∧ _ < _; simp [rowB] <;> omega))); conv => whnf)
                  rw [hgr]
                  refine ⟨fun hc3 => ?_, fun hc3 => ?_⟩
                  · simp only [Bool.and_eq_true, decide_eq_true_eq] at hc3
                    rw [if_pos hc3] at hR
                    conv => whnf
                    repeat ((first | refine ⟨gP_of ⟨by omega, by omega⟩, ?_⟩ | (refine ixo (by omega) ?_) | (refine ldoF (.osl bR 0 (line.length + 1) 1) (.tail _ (.head _)) rfl (by simp <;> omega) (by simp) ?_)
                                   | (refine stoF (by simp <;> omega) (.here _) ?_)); conv => whnf)
                    refine ⟨_, by omega, n + 1, n, rfl, heap2 (rowsF_congr fun j hj => ?_) rfl, rfl, by omega, hR⟩
                    rw [Nat.zero_add, Nat.mul_one]
                    by_cases hjp : j = p
                    · rw [if_pos hjp, if_pos hjp]; exact congrArg AV.bool (by simp)
                    · rw [if_neg hjp, if_neg hjp, if_neg hjp]
                  · rw [if_neg (by intro h; rw [h.2] at hc3; simp at hc3; omega)] at hR
                    conv => whnf
                    repeat (refine ⟨gP_of ⟨by omega, by omega⟩, ?_⟩; conv => whnf)
                    exact ⟨_, by omega, n + 1, best, rfl, rfl, rfl, by omega, hR⟩
              · have hR : most c (fitB (cells.drop (i + 1))) (line.drop p) = best := by
                  rw [hr]
                  unfold mostAt
                  rw [if_neg (by omega)]
                conv => whnf
                repeat (refine ⟨gP_of ⟨by omega, by omega⟩, ?_⟩; conv => whnf)
                exact ⟨_, by omega, p + 1, rfl, heap2 (hdone hR) rfl, rfl, by omega⟩
        · conv => whnf
          repeat (refine ⟨gP_of ⟨by omega, by omega⟩, ?_⟩; conv => whnf)
          refine ⟨_, _, Turn.freeze (.here _) (.vec (FzVs.ofF fun j hj => ?_) .nil) (FzR.refl _), _, by omega, i, rfl, rfl, rfl, by omega⟩
          by_cases hj' : j = i
          · subst hj'
            rw [if_pos rfl, if_neg (by omega)]
            exact fzRowV fun k hk => by rw [if_pos (by omega)]
          · rw [if_neg hj']
            exact .refl _
    · conv => whnf
      refine ⟨bO, rfl, ?_⟩
      rw [rowsF_congr (g := rowV cells line) fun j hj => by rw [if_neg (by omega)]]
theorem divS_drop {cells : List Cel} {i : Nat} {l : List Int} {k : Int} (h : i < cells.length) : divS (cells.drop i) l k = List.replicate (most cells[i] (fitB (cells.drop (i + 1))) l).toNat k ++ divS (cells.drop (i + 1)) (l.drop (most cells[i] (fitB (cells.drop (i + 1))) l).toNat) (k + 1) := by
  rw [List.drop_eq_getElem_cons h, divS]
def c61 : Cfg := ⟨[0, 1, 4, 5, 6, 7, 8, 9, 10, 11, 12, 21, 25, 42, 61, 80, 84], [], [], [], [(13, [0, 1, 2, 3, 4, 5, 6, 7, 8, 9, 10, 11, 12, 13, 14, 15, 16], [])], []⟩
set_option maxHeartbeats 1000000 in
theorem divideR (cells : List Cel) (line : List Int) (hc : CelsOK cells) (hl : line.length ≤ 60) :
    QCall Try.prog 61 [.sl 3 none (cells.map encCel), .sl 1 none (ints line)] [] (.tup [.sl 1 none (ints ((divide cells line).getD [])), .bool (divide cells line).isSome]) := by
  refine QCall.of (fcalls (F := Try.f61) c61 rfl rfl rfl mixed rfl fun X => ?_)
  conv => whnf
  have hcl := hc.len
  have e3 : (cells.map encCel).length = cells.length := by simp
  have e4 : (ints line).length = line.length := by simp
  have hg0 : (rowB cells line 0).getD (Int.toNat 0) false = fitB cells line := by
    rw [show Int.toNat 0 = 0 from rfl]
    simp [List.getD, rowB_get (show 0 ≤ line.length by omega)]
  have hrow : ∀ i : Nat, i ≤ cells.length → (List.range (cells.length + 1))[i]? = some i := fun i hi => by rw [List.getElem?_range (by omega)]
  repeat ((first | refine QCall.k0 (tableR cells line hc hl) ?_ | (refine ix0 (hrow 0 (by omega)) ?_) | (refine ix0 (rowB_get (Nat.zero_le _)) ?_)); conv => whnf)
  refine ⟨fun hc2 => ?_, fun hc2 => ?_⟩ <;> simp at hc2
  · have : divide cells line = none := by unfold divide; rw [if_neg (by simp [hc2])]
    conv => whnf
    rw [this]
    exact VLe.tup (.cons (VLe.nil (k := 1) (by decide)) (VsLe.refl _))
  have hdv : divide cells line = some (divS cells line 0) := by unfold divide; rw [if_pos hc2]
  conv => whnf
  refine sloop rfl mixed [0, 1, 6, 7, 8, 9] [(7, 1)] (fun m r h => ∃ (i : Nat) (out : List Int) (q : Nat), r = [(0, [], .sl 3 none (cells.map encCel)), (1, [], .sl 1 none (ints line)), (6, [], tableV cells line), (7, [], .sl 1 (some q) (ints out)), (8, [], .int .i64 out.length), (9, [], .int .i64 i)] ∧ h = [(q, .tok)] ∧ m = cells.length - i ∧ i ≤ cells.length ∧ out.length ≤ line.length ∧ divS cells line 0 = out ++ divS (cells.drop i) (line.drop out.length) i) ?_ ?_
  · conv => whnf
    refine ⟨by decide, fun q => ?_⟩
    conv => whnf
    exact ⟨_, 0, [], q, rfl, rfl, rfl, by omega, by simp, rfl⟩
  · rintro m r h ⟨i, out, q, rfl, rfl, rfl, hi2, ho, hr⟩
    conv => whnf
    refine ⟨fun hc3 => ?_, fun hc3 => ?_⟩ <;> simp at hc3
    · have hx : cells[i]? = some cells[i] := List.getElem?_eq_getElem hc3
      have hml := most_le cells[i] (fitB (cells.drop (i + 1))) (line.drop out.length)
      rw [divS_drop hc3] at hr
      obtain ⟨c, hce⟩ : ∃ c, c = cells[i] := ⟨_, rfl⟩
      rw [← hce] at hx hr hml
      have hv := hc.each c (List.mem_of_getElem? hx)
      obtain ⟨p, hpe⟩ : ∃ p, p = out.length := ⟨_, rfl⟩
      rw [← hpe] at hr hml ho
      rw [← hpe]
      conv => whnf
      refine sloop rfl mixed [0, 1, 6, 7, 8, 9, 10, 11] [] (fun m r h => ∃ (n : Nat) (best : Int), r = [(0, [], .sl 3 none (cells.map encCel)), (1, [], .sl 1 none (ints line)), (6, [], tableV cells line), (7, [], .sl 1 (some q) (ints out)), (8, [], .int .i64 p), (9, [], .int .i64 i), (10, [], .int .i64 (max 0 best)), (11, [], .int .i64 n)] ∧ h = [(q, .tok)] ∧ m = 62 - n ∧ n ≤ 61 ∧ -1 ≤ best ∧ best ≤ 60 ∧ most c (fitB (cells.drop (i + 1))) (line.drop p) = mostAt c (fitB (cells.drop (i + 1))) (line.drop p) n best) ?_ ?_
      · conv => whnf
        refine ⟨_, 0, -1, rfl, rfl, rfl, by omega, by omega, by omega, ?_⟩
        unfold most mostAt; simp
      · rintro m r h' ⟨n, best, rfl, rfl, rfl, hn, hb1, hb2, hr2⟩
        have hdl : (line.drop p).length = line.length - p := by simp
        conv => whnf
        repeat ((first | refine ⟨gP_of ⟨by omega, by omega⟩, ?_⟩ | refine ix (by assumption) ?_); conv => whnf)
        refine ⟨fun hc1 => ?_, fun hc1 => ?_⟩ <;> simp at hc1
        · have hgd : n ≠ 0 → line.getD ((p : Int) + (n : Int) - 1).toNat 0 = (line.drop p).getD (n - 1) 0 := by
            intro h0
            rw [show ((p : Int) + (n : Int) - 1).toNat = p + (n - 1) by omega]
            simp [List.getD]
          conv => whnf
          repeat ((first | refine ⟨gP_of ⟨by omega, by omega⟩, ?_⟩ | refine ix (by assumption) ?_ | (refine ixg 0 ?_ ?_; (conv => whnf); (intro h1; have h1 := of_decide_eq_true h1; show 0 ≤ _ ∧ _ < _; omega))
                         | refine gcall (allowsR c _ (by unfold LMAX; omega)) ?_ | refine And.intro (by show drawOK (opsAt Try.f61 _) _ = true; decide +kernel) ?_); conv => whnf)
          refine ⟨fun hc2 => ?_, fun hc2 => ?_⟩
          · simp only [Bool.and_eq_true, decide_eq_true_eq, Bool.not_eq_true'] at hc2
            have hR : most c (fitB (cells.drop (i + 1))) (line.drop p) = best := by
              rw [hr2]
              unfold mostAt
              rw [if_neg]
              rintro ⟨_, _, h0 | h0⟩
              · omega
              · rw [← hgd (by omega), hc2.2] at h0
                cases h0
            conv => whnf
            skip
            have hm0 : (max 0 best : Int) = ((most c (fitB (cells.drop (i + 1))) (line.drop p)).toNat : Int) := by rw [hR]; omega
            rw [hR] at hr hml hm0
            simp only [List.length_drop] at hml
            refine sloop rfl mixed [0, 1, 6, 7, 8, 9, 10, 12] [] (fun m r h => ∃ (k : Nat) (q : Nat), r = [(0, [], .sl 3 none (cells.map encCel)), (1, [], .sl 1 none (ints line)), (6, [], tableV cells line), (7, [], .sl 1 (some q) (ints (out ++ List.replicate k (i : Int)))), (8, [], .int .i64 p), (9, [], .int .i64 i), (10, [], .int .i64 (max 0 best)), (12, [], .int .i64 k)] ∧ h = [(q, .tok)] ∧ m = best.toNat - k ∧ k ≤ best.toNat) ?_ ?_
            · conv => whnf
              exact ⟨_, 0, q, by rw [List.replicate_zero, List.append_nil]; rfl, rfl, rfl, by omega⟩
            · rintro m r h ⟨k, q, rfl, rfl, rfl, hk⟩
              conv => whnf
              refine ⟨fun hc4 => ?_, fun hc4 => ?_⟩ <;> simp only [decide_eq_true_eq, decide_eq_false_iff_not] at hc4
              · conv => whnf
                repeat ((first | refine ⟨gP_of ⟨by omega, by omega⟩, ?_⟩ | (refine ⟨(by rw [List.length_append, ints_length, List.length_append, List.length_replicate]; show _ + 1 ≤ 4294967296; omega), fun q' => ⟨_, .here _, ?_⟩⟩)); conv => whnf)
                exact ⟨_, by omega, k + 1, q', by rw [List.replicate_succ', ← List.append_assoc]; unfold ints; rw [List.map_append (l₂ := [(i : Int)])]; rfl, rfl, rfl, by omega⟩
              · have hlen : (out ++ List.replicate k (i : Int)).length = out.length + k := by simp
                conv => whnf
                repeat (refine ⟨gP_of ⟨by omega, by omega⟩, ?_⟩; conv => whnf)
                refine ⟨_, by omega, i + 1, out ++ List.replicate k (i : Int), q, ?_, rfl, rfl, by omega, by omega, ?_⟩
                · rw [hlen, show ((out.length + k : Nat) : Int) = (p : Int) + max 0 best by omega]; rfl
                · rw [hr, show k = best.toNat by omega, List.append_assoc, List.drop_drop, List.length_append, List.length_replicate, hpe]
                  rfl
          · simp only [Bool.and_eq_false_iff, decide_eq_false_iff_not, Bool.not_eq_false'] at hc2
            have hR : most c (fitB (cells.drop (i + 1))) (line.drop p) = mostAt c (fitB (cells.drop (i + 1))) (line.drop p) (n + 1) (if c.mn ≤ n ∧ fitB (cells.drop (i + 1)) (line.drop (p + n)) = true then n else best) := by
              have : mostAt c (fitB (cells.drop (i + 1))) (line.drop p) n best = mostGo c (fitB (cells.drop (i + 1))) ((line.drop p).drop n) n best := by
                unfold mostAt
                rw [if_pos]
                refine ⟨hc1.1, by omega, ?_⟩
                by_cases h0 : n = 0
                · exact .inl h0
                · rw [← hgd h0]
                  exact .inr (hc2.resolve_left (by omega))
              rw [hr2, this, mostAt_succ (by omega), List.drop_drop]
            have hgr : (rowB cells line (i + 1)).getD ((p : Int) + (n : Int)).toNat false = fitB (cells.drop (i + 1)) (line.drop (p + n)) := by
              rw [show ((p : Int) + (n : Int)).toNat = p + n by omega]
              simp [List.getD, rowB_get (show p + n ≤ line.length by omega)]
            conv => whnf
            repeat ((first | refine ⟨gP_of ⟨by omega, by omega⟩, ?_⟩ | refine ix (by assumption) ?_ | (refine ixn (i + 1) (by omega) (hrow (i + 1) (by omega)) ?_) | (refine ixg false ?_ ?_; (conv => whnf); (intro h1; show 0 ≤ _ ∧ _ < _; simp [rowB] <;> omega))); conv => whnf)
            rw [hgr]
            refine ⟨fun hc3 => ?_, fun hc3 => ?_⟩
            · simp only [Bool.and_eq_true, decide_eq_true_eq] at hc3
              rw [if_pos hc3] at hR
              conv => whnf
              repeat (refine ⟨gP_of ⟨by omega, by omega⟩, ?_⟩; conv => whnf)
              exact ⟨_, by omega, n + 1, n, by rw [show max 0 (n : Int) = (n : Int) by omega]; rfl, rfl, rfl, by omega, by omega, by omega, hR⟩
            · rw [if_neg (by intro h; rw [h.2] at hc3; simp at hc3; omega)] at hR
              conv => whnf
              repeat (refine ⟨gP_of ⟨by omega, by omega⟩, ?_⟩; conv => whnf)
              exact ⟨_, by omega, n + 1, best, rfl, rfl, rfl, by omega, hb1, hb2, hR⟩
        · have hR : most c (fitB (cells.drop (i + 1))) (line.drop p) = best := by
            rw [hr2]
            unfold mostAt
            rw [if_neg (by omega)]
          conv => whnf
          skip
          have hm0 : (max 0 best : Int) = ((most c (fitB (cells.drop (i + 1))) (line.drop p)).toNat : Int) := by rw [hR]; omega
          rw [hR] at hr hml hm0
          simp only [List.length_drop] at hml
          refine sloop rfl mixed [0, 1, 6, 7, 8, 9, 10, 12] [] (fun m r h => ∃ (k : Nat) (q : Nat), r = [(0, [], .sl 3 none (cells.map encCel)), (1, [], .sl 1 none (ints line)), (6, [], tableV cells line), (7, [], .sl 1 (some q) (ints (out ++ List.replicate k (i : Int)))), (8, [], .int .i64 p), (9, [], .int .i64 i), (10, [], .int .i64 (max 0 best)), (12, [], .int .i64 k)] ∧ h = [(q, .tok)] ∧ m = best.toNat - k ∧ k ≤ best.toNat) ?_ ?_
          · conv => whnf
            exact ⟨_, 0, q, by rw [List.replicate_zero, List.append_nil]; rfl, rfl, rfl, by omega⟩
          · rintro m r h ⟨k, q, rfl, rfl, rfl, hk⟩
            conv => whnf
            refine ⟨fun hc4 => ?_, fun hc4 => ?_⟩ <;> simp only [decide_eq_true_eq, decide_eq_false_iff_not] at hc4
            · conv => whnf
              repeat ((first | refine ⟨gP_of ⟨by omega, by omega⟩, ?_⟩ | (refine ⟨(by rw [List.length_append, ints_length, List.length_append, List.length_replicate]; show _ + 1 ≤ 4294967296; omega), fun q' => ⟨_, .here _, ?_⟩⟩)); conv => whnf)
              exact ⟨_, by omega, k + 1, q', by rw [List.replicate_succ', ← List.append_assoc]; unfold ints; rw [List.map_append (l₂ := [(i : Int)])]; rfl, rfl, rfl, by omega⟩
            · have hlen : (out ++ List.replicate k (i : Int)).length = out.length + k := by simp
              conv => whnf
              repeat (refine ⟨gP_of ⟨by omega, by omega⟩, ?_⟩; conv => whnf)
              refine ⟨_, by omega, i + 1, out ++ List.replicate k (i : Int), q, ?_, rfl, rfl, by omega, by omega, ?_⟩
              · rw [hlen, show ((out.length + k : Nat) : Int) = (p : Int) + max 0 best by omega]; rfl
              · rw [hr, show k = best.toNat by omega, List.append_assoc, List.drop_drop, List.length_append, List.length_replicate, hpe]
                rfl
    · rw [drop_nil (by omega), divS, List.append_nil] at hr
      conv => whnf
      rw [hdv, hr]
      exact VLe.tup (.cons VLe.sl (VsLe.refl _))
end Go.Abs.Wall
set_option maxRecDepth 100000
set_option linter.unusedVariables false
namespace Go.Abs.Wall
open Go Go.Abs Go.Proofs
/-! ### Agrees -/
theorem right_ok {n : Int} {cells : List Cel} (h : right n cells = true) (hf : CelsFit cells) : CelsOK cells := by
  have key : ∀ (l : List Cel) (s : Int), rightGo n cells l s = true → cells.length ≤ 40 ∧ ∀ c ∈ l, 0 ≤ c.mn ∧ c.mn ≤ c.mx ∧ c.mx ≤ 9 := by
    intro l
    induction l with
    | nil => intro s h; simp [rightGo] at h; exact ⟨h.1, by simp⟩
    | cons a l ih =>
      intro s h
      unfold rightGo at h
      split at h
      · cases h
      · rename_i hb
        obtain ⟨h1, h2⟩ := ih _ h
        refine ⟨h1, fun c hc => ?_⟩
        cases List.mem_cons.1 hc with
        | inl e =>
          subst e
          simp only [celBad, Bool.or_eq_true, decide_eq_true_eq, not_or] at hb
          omega
        | inr e => exact h2 c e
  obtain ⟨h1, h2⟩ := key cells 0 h
  exact ⟨h1, fun c hc => ⟨(h2 c hc).1, (h2 c hc).2.1, (h2 c hc).2.2, hf.signs c hc⟩⟩
theorem check_ok {l : Lst} {cells : List Cel} (h : checkErr l cells = 0) (hf : CelsFit cells) : CelsOK cells ∧ right l.signs.length cells = true := by
  unfold checkErr at h
  split at h
  · rename_i h1; exact absurd h h1
  · split at h
    · rename_i h2; exact ⟨right_ok h2 hf, h2⟩
    · cases h
theorem line_ok {n : Int} {line : List Int} (h : lineErr n line = 0) : line.length ≤ 60 ∧ ∀ s ∈ line, 0 ≤ s ∧ s < n := by
  unfold lineErr at h
  split at h
  · cases h
  · split at h
    · cases h
    · rename_i h1 h2
      refine ⟨by omega, fun s hs => ?_⟩
      rw [Bool.not_eq_true, List.any_eq_false] at h2
      have := h2 s hs
      simp [inR] at this
      omega
theorem check1_ok {l : Lst} {cells : List Cel} {line : List Int} (h : checkErr1 l cells line = 0) (hf : CelsFit cells) : CelsOK cells ∧ line.length ≤ 60 := by
  unfold checkErr1 at h
  split at h
  · rename_i h1; exact absurd h h1
  · rename_i h1
    exact ⟨(check_ok (by simpa using h1) hf).1, (line_ok h).1⟩
theorem wallCheck1 (l : Lst) (cells : List Cel) (line : List Int) (hl : LstFit l) (hc : CelsFit cells) (hn : line.length ≤ LMAX) :
    QCall Try.prog 48 [.agg (encLst l), .sl 3 none (cells.map encCel), .sl 1 none [[.sl 1 none (ints line)]]] [] (.int .i64 (checkErr1 l cells line)) := by
  have := wallCheckN l cells [line] hl hc (by simp [LMAX]) (by simpa using hn)
  have e : checkErrN l cells [line] = checkErr1 l cells line := by unfold checkErrN checkErr1; rw [linesErr_one]
  rw [e] at this
  exact this
/-! ### changes -/
def distRow (a : Int) (prev : List Int → Int) (n : Int) : List Int → Int
  | [] => n
  | b :: p => min (differ a b + prev p) (min (1 + prev (b :: p)) (1 + distRow a prev n p))
def dist : List Int → List Int → Int
  | [] => fun p => p.length
  | a :: l => distRow a (dist l) (l.length + 1)
theorem dist_nl (p : List Int) : dist [] p = p.length := rfl
theorem dist_cn (a : Int) (l : List Int) : dist (a :: l) [] = l.length + 1 := rfl
theorem dist_cc (a b : Int) (l p : List Int) : dist (a :: l) (b :: p) = min (differ a b + dist l p) (min (1 + dist l (b :: p)) (1 + dist (a :: l) p)) := rfl
def pick (a : Int) (l : List Int) (target : Int) : List Int → Nat → Option Nat
  | [], _ => none
  | b :: p, o => if o + differ a b + dist l p = target then some o else pick a l target p (o + 1)
def pairsGo : List Int → List Int → Nat → List Int
  | [], _, _ => []
  | a :: l, p, j => match pick a l (dist (a :: l) p) p 0 with
    | none => -1 :: pairsGo l p j
    | some o => ((j + o : Nat) : Int) :: pairsGo l (p.drop (o + 1)) (j + o + 1)
def rowD (line par : List Int) (i : Nat) : AV := .sl 1 none ((List.range (par.length + 1)).map fun j => [AV.int .i64 (dist (line.drop i) (par.drop j))])
theorem differ01 (a b : Int) : 0 ≤ differ a b ∧ differ a b ≤ 1 := by unfold differ; split <;> omega
theorem dist_bd : ∀ (l p : List Int), 0 ≤ dist l p ∧ dist l p ≤ l.length + p.length
  | [], p => by simp [dist_nl]
  | a :: l, [] => by simp only [dist_cn, List.length_nil, List.length_cons]; omega
  | a :: l, b :: p => by
    have h1 := dist_bd l p
    have h2 := dist_bd l (b :: p)
    have h3 := dist_bd (a :: l) p
    have := differ01 a b
    simp only [dist_cc, List.length_cons] at *
    omega
theorem dist_nil (l : List Int) : dist l [] = l.length := by cases l <;> simp [dist_nl, dist_cn]
theorem pairsGo_length : ∀ (l p : List Int) (j : Nat), (pairsGo l p j).length = l.length
  | [], _, _ => rfl
  | a :: l, p, j => by
    unfold pairsGo
    split <;> simp [pairsGo_length l]
def c64 : Cfg := ⟨[0, 1, 4, 5, 6, 7, 8, 9, 10, 11, 12, 20, 33, 80, 95, 114, 115, 116, 125, 158], [], [], [], [(9, [0, 1, 2, 3, 4, 5, 6, 7, 8, 9, 10, 11, 12, 13, 14, 15, 16, 17, 18, 19, 20, 21, 22, 23, 24, 25, 26, 27, 28, 29, 30, 31, 32, 33, 34, 35, 36, 37, 38, 39, 40, 41, 42, 43, 44], []), (23, [0, 1, 2, 3, 4, 5, 6, 7, 8, 9, 10, 11, 12, 13, 14, 15, 16, 17, 18, 19, 20, 21, 22, 23, 24, 25, 26, 27, 28, 29, 30], [])], []⟩
set_option maxHeartbeats 1000000 in
theorem alignW (par line : List Int) (hp : par.length ≤ 60) (hl : line.length ≤ 60) :
    QCall Try.prog 64 [.sl 1 none (ints par), .sl 1 none (ints line)] [] (.tup [.int .i64 (dist line par), .sl 1 none (ints (pairsGo line par 0))]) := by
  have e3 : (ints par).length = par.length := by simp
  have e4 : (ints line).length = line.length := by simp
  have e1 : (((ints par).length : Int) + 1).toNat = par.length + 1 := by omega
  have e2 : (((ints line).length : Int) + 1).toNat = line.length + 1 := by omega
  refine QCall.of (ACalls.frz (R := fun v h => ∃ b f h2, v = .tup [.int .i64 (dist line par), .osl b 0 line.length 1] ∧ Rem b (.vec (rowsF line.length f)) h h2 ∧ ∀ q, q < line.length → f q = .int .i64 ((pairsGo line par 0).getD q 0)) (fcalls (F := Try.f64) c64 rfl rfl rfl mixed rfl fun X => ?_) ?_)
  rotate_left
  · rintro v h1 ⟨b, f, h2, rfl, hrem, hf⟩
    refine ⟨b, _, h2, h2, .tup [.int .i64 (dist line par), .sl 1 none (ints (pairsGo line par 0))], hrem, FzH.refl _, .tup (.cons (.refl _) (.cons (fzF ?_) .nil)), VLe.refl _⟩
    refine List.ext_getElem? fun q => ?_
    by_cases hq : q < line.length
    · have hq' : q < (pairsGo line par 0).length := by rw [pairsGo_length]; exact hq
      rw [List.getElem?_map, List.getElem?_range hq]
      simp [ints, hf q hq, List.getD, List.getElem?_eq_getElem hq']
    · rw [List.getElem?_eq_none (by rw [ints_length, pairsGo_length]; omega), List.getElem?_eq_none (by simp; omega)]
  conv => whnf
  repeat (refine ⟨gP_of ⟨by omega, by omega⟩, ?_⟩; conv => whnf)
  refine ⟨⟨rfl, by omega, by omega⟩, ?_⟩
  intro bO
  conv => whnf
  rw [e2, repC_F]
  rw [e4]
  refine tloop rfl mixed [0, 1, 6, 7] [] (fun m r h => ∃ (i : Nat), r = [(0, [], .sl 1 none (ints par)), (1, [], .sl 1 none (ints line)), (6, [], .osl bO 0 (line.length + 1) 1), (7, [], .int .i64 ((i : Int) - 1))] ∧ h = [(bO, .vec (rowsF (line.length + 1) fun j => if j < i then .nilS else rowD line par j))] ∧ m = i ∧ i ≤ line.length + 1) ?_ ?_
  · conv => whnf
    refine ⟨_, _, Turn.refl _ _, _, line.length + 1, ?_, ?_, rfl, Nat.le_refl _⟩
    · rw [show (((line.length + 1 : Nat) : Int) - 1) = (line.length : Int) by omega]; rfl
    · rw [rowsF_congr (g := fun j => if j < line.length + 1 then .nilS else rowD line par j) fun j hj => by rw [if_pos hj]]
  · rintro i r h ⟨_, rfl, rfl, rfl, hi⟩
    conv => whnf
    refine ⟨fun hc1 => ?_, fun hc1 => ?_⟩ <;> simp at hc1
    · obtain ⟨i, rfl⟩ : ∃ k, i = k + 1 := ⟨i - 1, by omega⟩
      rw [show (((i + 1 : Nat) : Int) - 1) = (i : Int) by omega]
      conv => whnf
      repeat (refine ⟨gP_of ⟨by omega, by omega⟩, ?_⟩; conv => whnf)
      refine ⟨⟨rfl, by omega, by omega⟩, ?_⟩
      intro bR
      conv => whnf
      rw [e1, repC_F]
      refine ixo (by omega) ?_
      conv => whnf
      refine stoF (by simp <;> omega) (.there (.here _)) ?_
      conv => whnf
      rw [e3]
      refine sloop rfl mixed [0, 1, 6, 7, 8] [] (fun m r h => ∃ (p : Nat), r = [(0, [], .sl 1 none (ints par)), (1, [], .sl 1 none (ints line)), (6, [], .osl bO 0 (line.length + 1) 1), (7, [], .int .i64 i), (8, [], .int .i64 ((p : Int) - 1))] ∧ h = [(bR, .vec (rowsF (par.length + 1) fun q => if q < p then .int .i64 0 else .int .i64 (dist (line.drop i) (par.drop q)))), (bO, .vec (rowsF (line.length + 1) fun j => if j = i then .osl bR 0 (par.length + 1) 1 else if j < i then .nilS else rowD line par j))] ∧ m = p ∧ p ≤ par.length + 1) ?_ ?_
      · conv => whnf
        refine ⟨_, par.length + 1, ?_, heap2 (rowsF_congr fun j hj => (if_pos hj).symm) (rowsF_congr fun j hj => ?_), rfl, Nat.le_refl _⟩
        · rw [show (((par.length + 1 : Nat) : Int) - 1) = (par.length : Int) by omega]
        simp only [Nat.zero_add, List.length_singleton, Nat.mul_one]
        by_cases hj : j = i
        · rw [if_pos hj, if_pos hj]
        · rw [if_neg hj, if_neg hj]
          by_cases hji : j < i
          · rw [if_pos hji, if_pos (by omega)]
          · rw [if_neg hji, if_neg (by omega)]
      · rintro p r h ⟨_, rfl, rfl, rfl, hp'⟩
        conv => whnf
        refine ⟨fun hc2 => ?_, fun hc2 => ?_⟩ <;> simp at hc2
        · obtain ⟨p, rfl⟩ : ∃ k, p = k + 1 := ⟨p - 1, by omega⟩
          rw [show (((p + 1 : Nat) : Int) - 1) = (p : Int) by omega]
          have hset : ∀ v, v = dist (line.drop i) (par.drop p) → (rowsF (par.length + 1) fun j => if j = 0 + p * 1 then AV.int .i64 v else if j < p + 1 then .int .i64 0 else .int .i64 (dist (line.drop i) (par.drop j))) = rowsF (par.length + 1) fun q => if q < p then .int .i64 0 else .int .i64 (dist (line.drop i) (par.drop q)) := by
            rintro v rfl
            refine rowsF_congr fun j hj => ?_
            rw [Nat.zero_add, Nat.mul_one]
            by_cases hjp : j = p
            · subst hjp; rw [if_pos rfl, if_neg (by omega)]
            · rw [if_neg hjp]
              by_cases hj2 : j < p
              · rw [if_pos hj2, if_pos (by omega)]
              · rw [if_neg hj2, if_neg (by omega)]
          conv => whnf
          refine ⟨fun hc3 => ?_, fun hc3 => ?_⟩ <;> simp only [decide_eq_true_eq, decide_eq_false_iff_not] at hc3
          · conv => whnf
            repeat ((first | refine ⟨gP_of ⟨by omega, by omega⟩, ?_⟩ | (refine ixo ?_ ?_; (focus omega)) | (refine ldoF (.osl bR 0 (par.length + 1) 1) (.tail _ (.head _)) rfl ?_ ?_ ?_; (focus (first | omega | (simp <;> omega))); (focus (simp <;> (first | omega | (intro hq; omega)))))
                           | (refine stoF ?_ (.here _) ?_; (focus (first | omega | (simp <;> omega))))); conv => whnf)
            refine ⟨_, by omega, p, rfl, heap2 (hset _ ?_) rfl, rfl, by omega⟩
            rw [drop_nil (by omega), dist_nl]
            simp; omega
          · conv => whnf
            refine ⟨fun hc4 => ?_, fun hc4 => ?_⟩ <;> simp only [decide_eq_true_eq, decide_eq_false_iff_not] at hc4
            · conv => whnf
              repeat ((first | refine ⟨gP_of ⟨by omega, by omega⟩, ?_⟩ | (refine ixo ?_ ?_; (focus omega)) | (refine ldoF (.osl bR 0 (par.length + 1) 1) (.tail _ (.head _)) rfl ?_ ?_ ?_; (focus (first | omega | (simp <;> omega))); (focus (simp <;> (first | omega | (intro hq; omega)))))
                             | (refine stoF ?_ (.here _) ?_; (focus (first | omega | (simp <;> omega))))); conv => whnf)
              refine ⟨_, by omega, p, rfl, heap2 (hset _ ?_) rfl, rfl, by omega⟩
              rw [drop_nil (l := par) (by omega), dist_nil]
              simp; omega
            · obtain ⟨x, hx⟩ := get_lt (show i < line.length by omega)
              obtain ⟨y, hy⟩ := get_lt (show p < par.length by omega)
              have hb1 := dist_bd (line.drop (i + 1)) (par.drop (p + 1))
              have hb2 := dist_bd (line.drop (i + 1)) (par.drop p)
              have hb3 := dist_bd (line.drop i) (par.drop (p + 1))
              have hdf := differ01 x y
              simp only [List.length_drop] at hb1 hb2 hb3
              have hr : ∀ k, k ≤ par.length → (List.range (par.length + 1))[k]? = some k := fun k hk => by rw [List.getElem?_range (by omega)]
              conv => whnf
              repeat ((first | refine ⟨gP_of ⟨by omega, by omega⟩, ?_⟩ | refine ix (by assumption) ?_ | (refine ixo ?_ ?_; (focus omega)) | (refine ixog ?_ ?_; (focus (conv => whnf; skip)); (focus (first | (show 0 ≤ _ ∧ _ < _; omega) | (intro hq; show 0 ≤ _ ∧ _ < _; omega))))
                             | (refine ldoF (.osl bR 0 (par.length + 1) 1) (.tail _ (.head _)) rfl ?_ ?_ ?_; (focus (first | omega | (simp <;> omega))); (focus (simp <;> (first | omega | (intro hq; omega)))))
                             | (refine ldoF (rowD line par (i + 1)) (.tail _ (.head _)) rfl ?_ ?_ ?_; (focus (first | omega | (simp <;> omega))); (focus (simp <;> (first | omega | (intro hq; omega)))))
                             | (refine ldoF (.int .i64 (dist (line.drop i) (par.drop (p + 1)))) (.head _) rfl ?_ ?_ ?_; (focus (first | omega | (simp <;> omega))); (focus (simp <;> (first | omega | (intro hq; omega)))))
                             | (refine ixn (p + 1) (by omega) (hr (p + 1) (by omega)) ?_) | (refine ixn p rfl (hr p (by omega)) ?_) | refine gcall (differW _ _) ?_ | (refine stoF ?_ (.here _) ?_; (focus (first | omega | (simp <;> omega))))
                             | refine And.intro (by show drawOK (opsAt Try.f64 _) _ = true; decide +kernel) ?_); conv => whnf)
              refine ⟨_, by omega, p, rfl, heap2 (hset _ ?_) rfl, rfl, by omega⟩
              rw [drop_cons hx, drop_cons hy, dist_cc, ← drop_cons hy, ← drop_cons hx]
              omega
        · conv => whnf
          repeat (refine ⟨gP_of ⟨by omega, by omega⟩, ?_⟩; conv => whnf)
          refine ⟨_, _, Turn.freeze (.here _) (.vec (FzVs.ofF fun j hj => ?_) .nil) (FzR.refl _), _, by omega, i, rfl, rfl, rfl, by omega⟩
          by_cases hj' : j = i
          · subst hj'
            rw [if_pos rfl, if_neg (by omega)]
            exact fzF (List.map_congr_left fun k hk => by rw [if_neg (show ¬ k < p by omega)])
          · rw [if_neg hj']
            exact .refl _
    · obtain rfl : i = 0 := by omega
      clear hc1
      conv => whnf
      refine ⟨⟨rfl, by omega, by omega⟩, ?_⟩
      intro bP
      conv => whnf
      rw [show (((ints line).length : Int)).toNat = line.length by omega, repC_F]
      refine sloop rfl mixed [0, 1, 6, 9, 10, 114, 115] [] (fun m r h => ∃ (i j : Nat) (pre : List Int), r = [(0, [], .sl 1 none (ints par)), (1, [], .sl 1 none (ints line)), (6, [], .osl bO 0 (line.length + 1) 1), (9, [], .osl bP 0 line.length 1), (10, [], .int .i64 j), (114, [], .int .i64 (ints line).length), (115, [], .int .i64 i)] ∧ h = [(bP, .vec (rowsF line.length fun q => if q < i then .int .i64 (pre.getD q 0) else .int .i64 0)), (bO, .vec (rowsF (line.length + 1) fun j => if j < 0 then .nilS else rowD line par j))] ∧ m = line.length - i ∧ i ≤ line.length ∧ j ≤ par.length ∧ pre.length = i ∧ pairsGo line par 0 = pre ++ pairsGo (line.drop i) (par.drop j) j) ?_ ?_
      · conv => whnf
        exact ⟨_, 0, 0, [], rfl, heap2 (rowsF_congr fun q hq => by simp) rfl, rfl, by omega, by omega, rfl, rfl⟩
      · rintro m r h ⟨i, j, pre, rfl, rfl, rfl, hi, hj, hpre, hr⟩
        conv => whnf
        refine ⟨fun hc1 => ?_, fun hc1 => ?_⟩ <;> simp at hc1
        · obtain ⟨x, hx⟩ := get_lt hc1
          rw [drop_cons hx, pairsGo, ← drop_cons hx] at hr
          have hset2 : ∀ (v : Int) (g : Nat → AV), (∀ q, q < line.length → g q = if q = i then .int .i64 v else if q < i then .int .i64 (pre.getD q 0) else .int .i64 0) → rowsF line.length g = rowsF line.length fun q => if q < i + 1 then .int .i64 ((pre ++ [v]).getD q 0) else .int .i64 0 := by
            intro v g hg
            refine rowsF_congr fun q hq => ?_
            rw [hg q hq]
            by_cases h1 : q = i
            · rw [if_pos h1, if_pos (by omega)]
              simp [List.getD, h1, ← hpre]
            · rw [if_neg h1]
              by_cases h2 : q < i
              · rw [if_pos h2, if_pos (by omega)]
                simp [List.getD, List.getElem?_append_left (show q < pre.length by omega)]
              · rw [if_neg h2, if_neg (by omega)]
          conv => whnf
          repeat ((first | (refine ixo ?_ ?_; (focus omega)) | (refine stoF ?_ (.here _) ?_; (focus (first | omega | (simp <;> omega))))); conv => whnf)
          refine sloop rfl mixed [0, 1, 6, 9, 10, 11, 12, 114, 115] [] (fun m r h => ∃ (k : Nat), r = [(0, [], .sl 1 none (ints par)), (1, [], .sl 1 none (ints line)), (6, [], .osl bO 0 (line.length + 1) 1), (9, [], .osl bP 0 line.length 1), (10, [], .int .i64 j), (11, [], .int .i64 i), (12, [], .int .i64 k), (114, [], .int .i64 (ints line).length), (115, [], .int .i64 i)] ∧ h = [(bP, .vec (rowsF line.length fun q => if q = i then .int .i64 (-1) else if q < i then .int .i64 (pre.getD q 0) else .int .i64 0)), (bO, .vec (rowsF (line.length + 1) fun j => if j < 0 then .nilS else rowD line par j))] ∧ m = par.length - k ∧ j ≤ k ∧ k ≤ par.length ∧ pick x (line.drop (i + 1)) (dist (line.drop i) (par.drop j)) (par.drop j) 0 = pick x (line.drop (i + 1)) (dist (line.drop i) (par.drop j)) (par.drop k) (k - j)) ?_ ?_
          · conv => whnf
            refine ⟨_, j, rfl, heap2 (rowsF_congr fun q hq => by rw [Nat.zero_add, Nat.mul_one]) rfl, rfl, by omega, by omega, by rw [Nat.sub_self]⟩
          · rintro m r h ⟨k, rfl, rfl, rfl, hk1, hk2, hpk⟩
            conv => whnf
            refine ⟨fun hc2 => ?_, fun hc2 => ?_⟩ <;> simp at hc2
            · obtain ⟨y, hy⟩ := get_lt hc2
              have hb1 := dist_bd (line.drop (i + 1)) (par.drop (k + 1))
              have hdf := differ01 x y
              simp only [List.length_drop] at hb1
              have hrr : ∀ k, k ≤ par.length → (List.range (par.length + 1))[k]? = some k := fun k hk => by rw [List.getElem?_range (by omega)]
              rw [drop_cons hy, pick] at hpk
              conv => whnf
              repeat ((first | refine ⟨gP_of ⟨by omega, by omega⟩, ?_⟩ | refine ix (by assumption) ?_ | (refine ixo ?_ ?_; (focus omega)) | (refine ixog ?_ ?_; (focus (conv => whnf; skip)); (focus (first | (show 0 ≤ _ ∧ _ < _; omega) | (intro hq; show 0 ≤ _ ∧ _ < _; omega))))
                             | (refine ldoF (rowD line par i) (.tail _ (.head _)) rfl ?_ ?_ ?_; (focus (first | omega | (simp <;> omega))); (focus (simp <;> (first | omega | (intro hq; omega)))))
                             | (refine ldoF (rowD line par (i + 1)) (.tail _ (.head _)) rfl ?_ ?_ ?_; (focus (first | omega | (simp <;> omega))); (focus (simp <;> (first | omega | (intro hq; omega)))))
                             | (refine ixn (k + 1) (by omega) (hrr (k + 1) (by omega)) ?_) | (refine ixn j rfl (hrr j (by omega)) ?_) | refine gcall (differW _ _) ?_ | refine And.intro (by show drawOK (opsAt Try.f64 _) _ = true; decide +kernel) ?_); conv => whnf)
              refine ⟨fun hc3 => ?_, fun hc3 => ?_⟩ <;> simp only [decide_eq_true_eq, decide_eq_false_iff_not] at hc3
              · rw [if_pos (by omega)] at hpk
                rw [hpk] at hr
                simp only [List.drop_drop] at hr
                rw [show j + (k - j) = k by omega, show j + (k - j + 1) = k + 1 by omega] at hr
                conv => whnf
                repeat ((first | refine ⟨gP_of ⟨by omega, by omega⟩, ?_⟩ | (refine ixo ?_ ?_; (focus omega)) | (refine stoF ?_ (.here _) ?_; (focus (first | omega | (simp <;> omega))))); conv => whnf)
                refine ⟨_, by omega, i + 1, k + 1, pre ++ [(k : Int)], rfl, heap2 (hset2 _ _ fun q hq => ?_) rfl, rfl, by omega, by omega, by simp [hpre], by rw [hr, List.append_assoc]; rfl⟩
                rw [Nat.zero_add, Nat.mul_one]
                by_cases h1 : q = i
                · rw [if_pos h1, if_pos h1]
                · rw [if_neg h1, if_neg h1, if_neg h1]
              · rw [if_neg (by omega)] at hpk
                conv => whnf
                repeat (refine ⟨gP_of ⟨by omega, by omega⟩, ?_⟩; conv => whnf)
                exact ⟨_, by omega, k + 1, rfl, rfl, rfl, by omega, by omega, by rw [hpk, show k + 1 - j = k - j + 1 by omega]⟩
            · rw [drop_nil (l := par) (i := k) (by omega), pick] at hpk
              rw [hpk] at hr
              conv => whnf
              repeat (refine ⟨gP_of ⟨by omega, by omega⟩, ?_⟩; conv => whnf)
              exact ⟨_, by omega, i + 1, j, pre ++ [-1], rfl, heap2 (hset2 _ _ fun q hq => rfl) rfl, rfl, by omega, by omega, by simp [hpre], by rw [hr, List.append_assoc]; rfl⟩
        · rw [drop_nil (by omega), pairsGo, List.append_nil] at hr
          have hrr : ∀ k, k ≤ par.length → (List.range (par.length + 1))[k]? = some k := fun k hk => by rw [List.getElem?_range (by omega)]
          conv => whnf
          repeat ((first | (refine ixog ?_ ?_; (focus (conv => whnf; skip)); (focus (first | (show 0 ≤ _ ∧ _ < _; omega) | (intro hq; show 0 ≤ _ ∧ _ < _; omega)))) | (refine ldoF (rowD line par 0) (.tail _ (.head _)) rfl ?_ ?_ ?_; (focus (first | omega | (simp <;> omega))); (focus (simp <;> (first | omega | (intro hq; omega)))))
                         | (refine ix0 (hrr 0 (by omega)) ?_)); conv => whnf)
          refine ⟨bP, _, _, rfl, .here _, fun q hq => ?_⟩
          rw [if_pos (by omega), hr]
end Go.Abs.Wall
set_option maxRecDepth 100000
set_option linter.unusedVariables false
namespace Go.Abs.Wall
open Go Go.Abs Go.Proofs
/-! ### the specification's sums, Compare; Changes -/
def sumsV (line par : List Int) : AV := .sl 1 none ((List.range (line.length + 1)).map fun i => [rowD line par i])
def c103 : Cfg := ⟨[0, 1, 4, 5, 6, 7, 8, 16, 29, 44, 59, 80], [], [], [], [(15, [0, 1, 2, 3, 4, 5, 6, 7, 8, 9, 10, 11, 12, 13, 14, 15, 16, 17, 18, 19, 20, 21], [])], []⟩
set_option maxHeartbeats 1000000 in
theorem sumsR (line par : List Int) (hl : line.length ≤ 60) (hp : par.length ≤ 60) :
    QCall Try.prog 103 [.sl 1 none (ints line), .sl 1 none (ints par)] [] (sumsV line par) := by
  refine ACalls.frz (R := fun v h => ∃ b, v = .osl b 0 (line.length + 1) 1 ∧ h = [(b, .vec (rowsF (line.length + 1) (rowD line par)))]) (fcalls (F := Try.f103) c103 rfl rfl rfl mixed rfl fun X => ?_) ?_
  rotate_left
  · rintro v h1 ⟨b, rfl, rfl⟩
    exact ⟨b, _, [], [], _, .here _, .nil, fzF rfl, rfl, rfl⟩
  have e3 : (ints par).length = par.length := by simp
  have e4 : (ints line).length = line.length := by simp
  have e1 : (((ints par).length : Int) + 1).toNat = par.length + 1 := by omega
  have e2 : (((ints line).length : Int) + 1).toNat = line.length + 1 := by omega
  conv => whnf
  repeat (refine ⟨gP_of ⟨by omega, by omega⟩, ?_⟩; conv => whnf)
  refine ⟨⟨rfl, by omega, by omega⟩, ?_⟩
  intro bO
  conv => whnf
  rw [e2, repC_F]
  rw [e4]
  refine tloop rfl mixed [0, 1, 5, 6] [] (fun m r h => ∃ (i : Nat), r = [(0, [], .sl 1 none (ints line)), (1, [], .sl 1 none (ints par)), (5, [], .osl bO 0 (line.length + 1) 1), (6, [], .int .i64 ((i : Int) - 1))] ∧ h = [(bO, .vec (rowsF (line.length + 1) fun j => if j < i then .nilS else rowD line par j))] ∧ m = i ∧ i ≤ line.length + 1) ?_ ?_
  · conv => whnf
    refine ⟨_, _, Turn.refl _ _, _, line.length + 1, ?_, ?_, rfl, Nat.le_refl _⟩
    · rw [show (((line.length + 1 : Nat) : Int) - 1) = (line.length : Int) by omega]; rfl
    · rw [rowsF_congr (g := fun j => if j < line.length + 1 then .nilS else rowD line par j) fun j hj => by rw [if_pos hj]]
  · rintro i r h ⟨_, rfl, rfl, rfl, hi⟩
    conv => whnf
    refine ⟨fun hc1 => ?_, fun hc1 => ?_⟩ <;> simp at hc1
    · obtain ⟨i, rfl⟩ : ∃ k, i = k + 1 := ⟨i - 1, by omega⟩
      rw [show (((i + 1 : Nat) : Int) - 1) = (i : Int) by omega]
      conv => whnf
      repeat (refine ⟨gP_of ⟨by omega, by omega⟩, ?_⟩; conv => whnf)
      refine ⟨⟨rfl, by omega, by omega⟩, ?_⟩
      intro bR
      conv => whnf
      rw [e1, repC_F]
      refine ixo (by omega) ?_
      conv => whnf
      refine stoF (by simp <;> omega) (.there (.here _)) ?_
      conv => whnf
      rw [e3]
      refine sloop rfl mixed [0, 1, 5, 6, 7] [] (fun m r h => ∃ (p : Nat), r = [(0, [], .sl 1 none (ints line)), (1, [], .sl 1 none (ints par)), (5, [], .osl bO 0 (line.length + 1) 1), (6, [], .int .i64 i), (7, [], .int .i64 ((p : Int) - 1))] ∧ h = [(bR, .vec (rowsF (par.length + 1) fun q => if q < p then .int .i64 0 else .int .i64 (dist (line.drop i) (par.drop q)))), (bO, .vec (rowsF (line.length + 1) fun j => if j = i then .osl bR 0 (par.length + 1) 1 else if j < i then .nilS else rowD line par j))] ∧ m = p ∧ p ≤ par.length + 1) ?_ ?_
      · conv => whnf
        refine ⟨_, par.length + 1, ?_, heap2 (rowsF_congr fun j hj => (if_pos hj).symm) (rowsF_congr fun j hj => ?_), rfl, Nat.le_refl _⟩
        · rw [show (((par.length + 1 : Nat) : Int) - 1) = (par.length : Int) by omega]
        simp only [Nat.zero_add, List.length_singleton, Nat.mul_one]
        by_cases hj : j = i
        · rw [if_pos hj, if_pos hj]
        · rw [if_neg hj, if_neg hj]
          by_cases hji : j < i
          · rw [if_pos hji, if_pos (by omega)]
          · rw [if_neg hji, if_neg (by omega)]
      · rintro p r h ⟨_, rfl, rfl, rfl, hp'⟩
        conv => whnf
        refine ⟨fun hc2 => ?_, fun hc2 => ?_⟩ <;> simp at hc2
        · obtain ⟨p, rfl⟩ : ∃ k, p = k + 1 := ⟨p - 1, by omega⟩
          rw [show (((p + 1 : Nat) : Int) - 1) = (p : Int) by omega]
          have hset : ∀ v, v = dist (line.drop i) (par.drop p) → (rowsF (par.length + 1) fun j => if j = 0 + p * 1 then AV.int .i64 v else if j < p + 1 then .int .i64 0 else .int .i64 (dist (line.drop i) (par.drop j))) = rowsF (par.length + 1) fun q => if q < p then .int .i64 0 else .int .i64 (dist (line.drop i) (par.drop q)) := by
            rintro v rfl
            refine rowsF_congr fun j hj => ?_
            rw [Nat.zero_add, Nat.mul_one]
            by_cases hjp : j = p
            · subst hjp; rw [if_pos rfl, if_neg (by omega)]
            · rw [if_neg hjp]
              by_cases hj2 : j < p
              · rw [if_pos hj2, if_pos (by omega)]
              · rw [if_neg hj2, if_neg (by omega)]
          have hr : ∀ k, k ≤ par.length → (List.range (par.length + 1))[k]? = some k := fun k hk => by rw [List.getElem?_range (by omega)]
          have hb1 := dist_bd (line.drop (i + 1)) (par.drop (p + 1))
          have hb2 := dist_bd (line.drop (i + 1)) (par.drop p)
          have hb3 := dist_bd (line.drop i) (par.drop (p + 1))
          simp only [List.length_drop] at hb1 hb2 hb3
          by_cases hil : i < line.length
          · obtain ⟨x, hx⟩ := get_lt hil
            by_cases hpl : p < par.length
            · obtain ⟨y, hy⟩ := get_lt hpl
              have hdf := differ01 x y
              conv => whnf
              repeat ((first | refine ⟨gP_of ⟨by omega, by omega⟩, ?_⟩ | refine ix (by assumption) ?_ | (refine cT ?_ ?_; (focus (simp <;> omega))) | (refine ixo ?_ ?_; (focus omega))
                             | (refine ixog ?_ ?_; (focus (conv => whnf; skip)); (focus (first | (show 0 ≤ _ ∧ _ < _; omega) | (intro hq; show 0 ≤ _ ∧ _ < _; omega)))) | (refine ldoF (.osl bR 0 (par.length + 1) 1) (.tail _ (.head _)) rfl ?_ ?_ ?_; (focus (first | omega | (simp <;> omega))); (focus (simp <;> (first | omega | (intro hq; omega)))))
                             | (refine ldoF (rowD line par (i + 1)) (.tail _ (.head _)) rfl ?_ ?_ ?_; (focus (first | omega | (simp <;> omega))); (focus (simp <;> (first | omega | (intro hq; omega)))))
                             | (refine ldoF (.int .i64 (dist (line.drop i) (par.drop (p + 1)))) (.head _) rfl ?_ ?_ ?_; (focus (first | omega | (simp <;> omega))); (focus (simp <;> (first | omega | (intro hq; omega)))))
                             | (refine ixn (p + 1) (by omega) (hr (p + 1) (by omega)) ?_) | (refine ixn p rfl (hr p (by omega)) ?_) | refine gcall (differR _ _) ?_ | (refine stoF ?_ (.here _) ?_; (focus (first | omega | (simp <;> omega))))
                             | refine And.intro (by show drawOK (opsAt Try.f103 _) _ = true; decide +kernel) ?_); conv => whnf)
              refine ⟨_, by omega, p, rfl, heap2 (hset _ ?_) rfl, rfl, by omega⟩
              rw [drop_cons hx, drop_cons hy, dist_cc, ← drop_cons hy, ← drop_cons hx]
              omega
            · conv => whnf
              repeat ((first | refine ⟨gP_of ⟨by omega, by omega⟩, ?_⟩ | (refine cT ?_ ?_; (focus (simp <;> omega))) | (refine cF ?_ ?_; (focus (simp <;> omega))) | (refine ixo ?_ ?_; (focus omega))
                             | (refine ixog ?_ ?_; (focus (conv => whnf; skip)); (focus (first | (show 0 ≤ _ ∧ _ < _; omega) | (intro hq; show 0 ≤ _ ∧ _ < _; omega)))) | (refine ldoF (.osl bR 0 (par.length + 1) 1) (.tail _ (.head _)) rfl ?_ ?_ ?_; (focus (first | omega | (simp <;> omega))); (focus (simp <;> (first | omega | (intro hq; omega)))))
                             | (refine ldoF (rowD line par (i + 1)) (.tail _ (.head _)) rfl ?_ ?_ ?_; (focus (first | omega | (simp <;> omega))); (focus (simp <;> (first | omega | (intro hq; omega)))))
                             | (refine ixn p rfl (hr p (by omega)) ?_) | (refine stoF ?_ (.here _) ?_; (focus (first | omega | (simp <;> omega))))); conv => whnf)
              refine ⟨_, by omega, p, rfl, heap2 (hset _ ?_) rfl, rfl, by omega⟩
              rw [drop_nil (l := par) (by omega), dist_nil, dist_nil]
              simp; omega
          · by_cases hpl : p < par.length
            · conv => whnf
              repeat ((first | refine ⟨gP_of ⟨by omega, by omega⟩, ?_⟩ | (refine cT ?_ ?_; (focus (simp <;> omega))) | (refine cF ?_ ?_; (focus (simp <;> omega))) | (refine ixo ?_ ?_; (focus omega))
                             | (refine ixog ?_ ?_; (focus (conv => whnf; skip)); (focus (first | (show 0 ≤ _ ∧ _ < _; omega) | (intro hq; show 0 ≤ _ ∧ _ < _; omega)))) | (refine ldoF (.osl bR 0 (par.length + 1) 1) (.tail _ (.head _)) rfl ?_ ?_ ?_; (focus (first | omega | (simp <;> omega))); (focus (simp <;> (first | omega | (intro hq; omega)))))
                             | (refine ldoF (.int .i64 (dist (line.drop i) (par.drop (p + 1)))) (.head _) rfl ?_ ?_ ?_; (focus (first | omega | (simp <;> omega))); (focus (simp <;> (first | omega | (intro hq; omega)))))
                             | (refine stoF ?_ (.here _) ?_; (focus (first | omega | (simp <;> omega))))); conv => whnf)
              refine ⟨_, by omega, p, rfl, heap2 (hset _ ?_) rfl, rfl, by omega⟩
              rw [drop_nil (l := line) (by omega), dist_nl, dist_nl]
              simp; omega
            · conv => whnf
              repeat ((first | refine ⟨gP_of ⟨by omega, by omega⟩, ?_⟩ | (refine cF ?_ ?_; (focus (simp <;> omega))) | (refine ixo ?_ ?_; (focus omega)) | (refine ldoF (.osl bR 0 (par.length + 1) 1) (.tail _ (.head _)) rfl ?_ ?_ ?_; (focus (first | omega | (simp <;> omega))); (focus (simp <;> (first | omega | (intro hq; omega)))))
                             | (refine stoF ?_ (.here _) ?_; (focus (first | omega | (simp <;> omega))))); conv => whnf)
              refine ⟨_, by omega, p, rfl, heap2 (hset _ ?_) rfl, rfl, by omega⟩
              rw [drop_nil (l := line) (by omega), dist_nl]
              simp; omega
        · conv => whnf
          repeat (refine ⟨gP_of ⟨by omega, by omega⟩, ?_⟩; conv => whnf)
          refine ⟨_, _, Turn.freeze (.here _) (.vec (FzVs.ofF fun j hj => ?_) .nil) (FzR.refl _), _, by omega, i, rfl, rfl, rfl, by omega⟩
          by_cases hj' : j = i
          · subst hj'
            rw [if_pos rfl, if_neg (by omega)]
            exact fzF (List.map_congr_left fun k hk => by rw [if_neg (show ¬ k < p by omega)])
          · rw [if_neg hj']
            exact .refl _
    · conv => whnf
      refine ⟨bO, rfl, ?_⟩
      rw [rowsF_congr (g := rowD line par) fun j hj => by rw [if_neg (by omega)]]
def cmp : List Int → Nat → List (Int × Int)
  | [], _ => []
  | k :: t, i => if 0 ≤ k then ((i : Int), k) :: cmp t (i + 1) else cmp t (i + 1)
def encPr (p : Int × Int) : List AV := [.int .i64 p.1, .int .i64 p.2]
def c67 : Cfg := ⟨[0, 1, 4, 5, 6, 7, 8, 9, 10, 17, 24, 57], [], [], [], [(10, [0, 1, 2, 3, 4, 5, 6, 7, 8, 9, 10, 11, 12, 13, 14, 15, 16, 17, 18, 19, 20, 21, 22, 23, 24, 25, 26, 27, 28, 29, 30], [])], []⟩
theorem compareR (line par : List Int) (hl : line.length ≤ 60) (hp : par.length ≤ 60) :
    QCall Try.prog 67 [.sl 1 none (ints line), .sl 1 none (ints par)] [] (.tup [.int .i64 (dist line par), .sl 2 none ((cmp (pairsGo line par 0) 0).map encPr)]) := by
  have e3 : (ints par).length = par.length := by simp
  have e4 : (ints line).length = line.length := by simp
  have hcol : ∀ k, k ≤ par.length → (List.range (par.length + 1))[k]? = some k := fun k hk => by rw [List.getElem?_range (by omega)]
  have hrow : ∀ k, k ≤ line.length → (List.range (line.length + 1))[k]? = some k := fun k hk => by rw [List.getElem?_range (by omega)]
  refine QCall.of (fcalls (F := Try.f67) c67 rfl rfl rfl mixed rfl fun X => ?_)
  conv => whnf
  repeat (refine QCall.k0 (sumsR line par hl hp) ?_; conv => whnf)
  refine sloop rfl mixed [0, 1, 6, 7, 8, 9] [(7, 2)] (fun m r h => ∃ (i j q : Nat) (out : List (Int × Int)), r = [(0, [], .sl 1 none (ints line)), (1, [], .sl 1 none (ints par)), (6, [], sumsV line par), (7, [], .sl 2 (some q) (out.map encPr)), (8, [], .int .i64 j), (9, [], .int .i64 i)] ∧ h = [(q, .tok)] ∧ m = line.length - i ∧ i ≤ line.length ∧ j ≤ par.length ∧ out.length ≤ i ∧ cmp (pairsGo line par 0) 0 = out ++ cmp (pairsGo (line.drop i) (par.drop j) j) i) ?_ ?_
  · conv => whnf
    refine ⟨by decide, fun q => ?_⟩
    conv => whnf
    exact ⟨_, 0, 0, q, [], rfl, rfl, rfl, by omega, by omega, by simp, rfl⟩
  · rintro m r h ⟨i, j, q, out, rfl, rfl, rfl, hi, hj, ho, hr⟩
    conv => whnf
    refine ⟨fun hc1 => ?_, fun hc1 => ?_⟩ <;> simp at hc1
    · obtain ⟨x, hx⟩ := get_lt hc1
      rw [drop_cons hx, pairsGo, ← drop_cons hx] at hr
      conv => whnf
      refine sloop rfl mixed [0, 1, 6, 7, 8, 9, 10] [] (fun m r h => ∃ (k : Nat), r = [(0, [], .sl 1 none (ints line)), (1, [], .sl 1 none (ints par)), (6, [], sumsV line par), (7, [], .sl 2 (some q) (out.map encPr)), (8, [], .int .i64 j), (9, [], .int .i64 i), (10, [], .int .i64 k)] ∧ h = [(q, .tok)] ∧ m = par.length - k ∧ j ≤ k ∧ k ≤ par.length ∧ pick x (line.drop (i + 1)) (dist (line.drop i) (par.drop j)) (par.drop j) 0 = pick x (line.drop (i + 1)) (dist (line.drop i) (par.drop j)) (par.drop k) (k - j)) ?_ ?_
      · conv => whnf
        exact ⟨_, j, rfl, rfl, rfl, by omega, by omega, by rw [Nat.sub_self]⟩
      · rintro m r h ⟨k, rfl, rfl, rfl, hk1, hk2, hpk⟩
        conv => whnf
        refine ⟨fun hc2 => ?_, fun hc2 => ?_⟩ <;> simp at hc2
        · obtain ⟨y, hy⟩ := get_lt hc2
          have hb1 := dist_bd (line.drop (i + 1)) (par.drop (k + 1))
          have hdf := differ01 x y
          simp only [List.length_drop] at hb1
          rw [drop_cons hy, pick] at hpk
          conv => whnf
          repeat ((first | refine ⟨gP_of ⟨by omega, by omega⟩, ?_⟩ | refine ix (by assumption) ?_ | (refine ixn (i + 1) (by omega) (hrow (i + 1) (by omega)) ?_) | (refine ixn i rfl (hrow i (by omega)) ?_)
                         | (refine ixn (k + 1) (by omega) (hcol (k + 1) (by omega)) ?_) | (refine ixn j rfl (hcol j (by omega)) ?_) | refine gcall (differR _ _) ?_ | refine And.intro (by show drawOK (opsAt Try.f67 _) _ = true; decide +kernel) ?_); conv => whnf)
          refine ⟨fun hc3 => ?_, fun hc3 => ?_⟩ <;> simp only [decide_eq_true_eq, decide_eq_false_iff_not] at hc3
          · rw [if_pos (by omega)] at hpk
            rw [hpk] at hr
            simp only [List.drop_drop] at hr
            rw [show j + (k - j) = k by omega, show j + (k - j + 1) = k + 1 by omega, cmp, if_pos (by omega)] at hr
            conv => whnf
            repeat ((first | refine ⟨gP_of ⟨by omega, by omega⟩, ?_⟩ | (refine ⟨(by rw [List.length_append, List.length_map]; show _ + 1 ≤ 4294967296; omega), fun q' => ⟨_, .here _, ?_⟩⟩)); conv => whnf)
            exact ⟨_, by omega, i + 1, k + 1, q', out ++ [((i : Int), (k : Int))], by rw [List.map_append]; rfl, rfl, rfl, by omega, by omega, by simp; omega, by rw [hr, List.append_assoc]; rfl⟩
          · rw [if_neg (by omega)] at hpk
            conv => whnf
            repeat (refine ⟨gP_of ⟨by omega, by omega⟩, ?_⟩; conv => whnf)
            exact ⟨_, by omega, k + 1, rfl, rfl, rfl, by omega, by omega, by rw [hpk, show k + 1 - j = k - j + 1 by omega]⟩
        · rw [drop_nil (l := par) (i := k) (by omega), pick] at hpk
          rw [hpk] at hr
          simp only at hr
          rw [cmp, if_neg (by omega)] at hr
          conv => whnf
          repeat (refine ⟨gP_of ⟨by omega, by omega⟩, ?_⟩; conv => whnf)
          exact ⟨_, by omega, i + 1, j, q, out, rfl, rfl, rfl, by omega, by omega, by omega, hr⟩
    · rw [drop_nil (by omega), pairsGo, cmp, List.append_nil] at hr
      conv => whnf
      repeat ((first | (refine ix0 (hrow 0 (by omega)) ?_) | (refine ix0 (hcol 0 (by omega)) ?_)); conv => whnf)
      rw [hr]
      exact VLe.tup (.cons (VLe.refl _) (.cons VLe.sl .nil))
def changes (l : Lst) (a b : List Int) : Int × List (Int × Int) × Int :=
  if lstErr l ≠ 0 then (0, [], lstErr l)
  else if linesErr l.signs.length [a, b] ≠ 0 then (0, [], linesErr l.signs.length [a, b])
  else (dist b a, cmp (pairsGo b a 0) 0, 0)
end Go.Abs.Wall

