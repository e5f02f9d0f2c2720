/- What is proved: small laws for the walks of this seat, and contracts of its functions. No condition but those each theorem names. -/
import Derived.Test.YtoncocddopjjcaaGreatN9
import Derived.Test.YtoncocddopjjcaaGreatN8
set_option maxRecDepth 100000
set_option linter.unusedVariables false
set_option linter.unusedSimpArgs false
namespace Go.Abs.Wall
open Go Go.Abs Go.Proofs
/-! ### the words of a place, the specification's -/
structure TabOK (H : Hou) (tbl : List (List Use)) (a : Nat) (f : Frm) : Prop where
  hou : HouOK H
  fit : HouFit H
  entry : 0 ≤ f.entry ∧ f.entry < H.lex.entries.length
  ending : -1 ≤ f.ending ∧ f.ending < H.lex.endings.length
  uses : ∀ us ∈ tbl, us.length ≤ 1048576 ∧ ∀ u ∈ us, UseOK u
  len : tbl.length ≤ 1048576
  at_ : a ≤ tbl.length
theorem TabOK.sp {H : Hou} {tbl : List (List Use)} {a : Nat} {f : Frm} (h : TabOK H tbl a f) : SpOK (spOf H f) := spAt (at_ := 0) h.hou h.entry.1 h.entry.2 h.ending.2
end Go.Abs.Wall
set_option maxRecDepth 100000
set_option linter.unusedVariables false
set_option linter.unusedSimpArgs false
namespace Go.Abs.Wall
open Go Go.Abs Go.Proofs
/-! ### the words of a place in order, the specification's -/
structure TabW (H : Hou) (tbl : List (List Use)) (a : Nat) : Prop where
  hou : HouOK H
  fit : HouFit H
  uses : ∀ us ∈ tbl, us.length ≤ 1048576 ∧ ∀ u ∈ us, UseOK u
  len : tbl.length ≤ 1048576
  at_ : a ≤ tbl.length
theorem TabW.ok {H : Hou} {tbl : List (List Use)} {a : Nat} (h : TabW H tbl a) {e n : Int} (he : 0 ≤ e ∧ e < H.lex.entries.length) (hn : -1 ≤ n ∧ n < H.lex.endings.length) : TabOK H tbl a ⟨e, n, []⟩ := ⟨h.hou, h.fit, he, hn, h.uses, h.len, h.at_⟩
theorem TabW.all {H : Hou} {tbl : List (List Use)} {a : Nat} (h : TabW H tbl a) : ((tbl.drop a).take 12).length ≤ 12 ∧ ∀ us ∈ (tbl.drop a).take 12, us.length ≤ 1048576 ∧ ∀ u ∈ us, UseOK u :=
  ⟨by rw [List.length_take]; omega, fun us hus => h.uses us (List.mem_of_mem_drop (List.mem_of_mem_take hus))⟩
end Go.Abs.Wall
set_option maxRecDepth 100000
set_option linter.unusedVariables false
set_option linter.unusedSimpArgs false
namespace Go.Abs.Wall
open Go Go.Abs Go.Proofs
def c25 : Cfg := ⟨[0, 1, 2, 3, 6, 7, 8, 9, 14, 20, 27], [], [], [], [], []⟩
def c24 : Cfg := ⟨[0, 1, 2, 4, 5, 41], [], [5], [], [], []⟩
def c82 : Cfg := ⟨[0, 1, 2, 3, 4], [], [], [], [], []⟩
def c43 : Cfg := ⟨[0, 1, 2, 3, 4], [], [], [], [], []⟩
def c27 : Cfg := ⟨[0, 1, 4, 5, 10, 14, 67], [], [], [], [(6, [0, 1, 2, 3, 4, 5, 6, 7, 8, 9, 10, 11, 12, 13, 14, 15, 16, 17, 18, 19, 20, 21, 22, 23, 24, 25, 26, 27, 28, 29, 30, 31, 32, 33, 34, 35, 36, 37, 38, 39, 40, 41, 42, 43, 44, 45, 46, 47, 48, 49, 50], [])], []⟩
def c4 : Cfg := ⟨[0, 1, 2, 3, 6, 7, 8, 9, 10, 13], [], [], [], [], []⟩
def wordsE (H : Hou) (line : List Int) (a : Int) : Int :=
  if lineErr H line ≠ 0 then lineErr H line else if wthn a 0 line.length = false then 1 else if 2000 < (edgsAt H line a.toNat).length then 2 else 0
def wordsLs (H : Hou) (line : List Int) (a : Int) : List Edg := if wordsE H line a = 0 then edgsAt H line a.toNat else []
theorem wordsX (H : Hou) (line : List Int) (a : Int) (hf : HouFit H) (hl : line.length ≤ 1048576) :
    QCall Tryz.prog 25 [.agg (encHou H), .sl 1 none (ints line), .int .i64 a] [] (.tup [.sl 7 none ((wordsLs H line a).map encEdg), .int .i64 (wordsE H line a)]) := by
  refine QCall.of ?_
  refine fcalls (F := Tryz.f25) c25 rfl rfl rfl mixed rfl fun X => ?_
  conv => whnf
  repeat (refine QCall.k0 (checkW H line hf (by unfold LMAX; omega)) ?_; conv => whnf)
  refine ⟨fun h1 => ?_, fun h1 => ?_⟩ <;> simp at h1
  · have he : wordsE H line a = lineErr H line := by rw [wordsE, if_pos h1]
    conv => whnf
    skip
    rw [wordsLs, he, if_neg h1]
    exact VLe.tup (.cons (VLe.nil (by decide)) (.cons (VLe.refl _) .nil))
  have hL := lineOK h1
  conv => whnf
  repeat (refine QCall.k0 (within _ _ _) ?_; conv => whnf)
  refine ⟨fun h2 => ?_, fun h2 => ?_⟩
  · have h2 : (!wthn a 0 ((ints line).length : Int)) = true := h2
    rw [ints_length, Bool.not_eq_true'] at h2
    have he : wordsE H line a = 1 := by rw [wordsE, if_neg (by omega), if_pos h2]
    conv => whnf
    skip
    rw [wordsLs, he, if_neg (by decide)]
    exact VLe.tup (.cons (VLe.nil (by decide)) (.cons (VLe.refl _) .nil))
  have h2 : (!wthn a 0 ((ints line).length : Int)) = false := h2
  rw [ints_length, Bool.not_eq_false', wthn_iff] at h2
  obtain ⟨n, rfl⟩ : ∃ n : Nat, a = (n : Int) := ⟨a.toNat, by omega⟩
  have h0' : wordsE H line n = if 2000 < (edgsAt H line n).length then 2 else 0 := by rw [wordsE, if_neg (by omega), if_neg (by rw [Bool.not_eq_false, wthn_iff]; omega)]; rfl
  conv => whnf
  repeat (refine QCall.k0 (wordsW H line n 2000 hL.hou hf hL.signs hl (by omega) (by decide)) ?_; conv => whnf)
  by_cases hb : (edgsAt H line n).length ≤ 2000
  · rw [if_neg (by omega)] at h0'
    rw [wordsM_fits hb]
    refine cF (by simp; omega) ?_
    conv => whnf
    skip
    rw [wordsLs, h0', if_pos rfl]
    exact VLe.refl _
  · rw [if_pos (by omega)] at h0'
    have hlg := wordsM_long (H := H) (line := line) (at_ := n) (most := 2000) (by omega)
    refine cT (by rw [List.length_map, hlg]; decide) ?_
    conv => whnf
    skip
    rw [wordsLs, h0', if_neg (by decide)]
    exact VLe.tup (.cons (VLe.nil (by decide)) (.cons (VLe.refl _) .nil))
end Go.Abs.Wall
set_option maxRecDepth 100000
set_option linter.unusedVariables false
set_option linter.unusedSimpArgs false
namespace Go.Abs.Wall
open Go Go.Abs Go.Proofs
/-! ### what the laws compare -/
def largeM (H : Hou) (line : List Int) : Bool :=
  if ((decide (60 < (H.lex.entries.length : Int)) && decide ((H.lex.entries.length : Int) ≤ 200)) || (decide (12 < (H.lex.endings.length : Int)) && decide ((H.lex.endings.length : Int) ≤ 40)) || (decide (6 < (H.lex.clitics.length : Int)) && decide ((H.lex.clitics.length : Int) ≤ 10))) = true then true
  else decide (16 < (line.length : Int)) && decide ((line.length : Int) ≤ 60)
theorem largeW (H : Hou) (line : List Int) : QCall Tryz.prog 24 [.agg (encHou H), .sl 1 none (ints line)] [] (.bool (largeM H line)) := by
  obtain ⟨b, hb⟩ : ∃ b, b = largeM H line := ⟨_, rfl⟩
  rw [← hb]
  unfold largeM at hb
  rw [← List.length_map (f := encEnt), ← List.length_map (f := encEdn), ← List.length_map (f := encCli), ← ints_length] at hb
  refine fcalls (F := Tryz.f24) c24 rfl rfl rfl mixed rfl fun X => ?_
  conv => whnf
  intro b5
  conv => whnf
  repeat (refine ⟨_, _, Rem.here _, ⟨Nat.le_of_ble_eq_true rfl, rfl⟩, ?_⟩; conv => whnf)
  refine ⟨fun hq => ?_, fun hq => ?_⟩
  · rw [if_pos hq] at hb
    conv => whnf
    exact ⟨by rw [hb], rfl⟩
  · rw [if_neg (by rw [show _ = false from hq]; decide)] at hb
    conv => whnf
    skip
    exact ⟨by rw [hb], rfl⟩
theorem sameForm (a b : Frm) (ha : a.clitics.length ≤ LMAX) (hb : b.clitics.length ≤ LMAX) : QCall Tryz.prog 82 [.agg (encFrm a), .agg (encFrm b)] [] (.bool (decide (a = b))) := by
  refine fcalls (F := Tryz.f82) c82 rfl rfl rfl mixed rfl fun X => ?_
  conv => whnf
  repeat (refine gcall (sameInts a.clitics b.clitics ha hb) ?_; conv => whnf)
  refine ⟨congrArg AV.bool ?_, rfl⟩
  rw [Bool.eq_iff_iff]
  obtain ⟨a1, a2, a3⟩ := a
  obtain ⟨b1, b2, b3⟩ := b
  simp [and_assoc]
theorem sameWord (a b : Wrd) (ha : WrdFit a) (hb : WrdFit b) : QCall Tryz.prog 43 [.agg (encWrd a), .agg (encWrd b)] [] (.bool (decide (a = b))) := by
  have h1 := ha.cl; have h2 := ha.us; have h3 := hb.cl; have h4 := hb.us
  refine fcalls (F := Tryz.f43) c43 rfl rfl rfl mixed rfl fun X => ?_
  conv => whnf
  repeat ((first | refine QCall.k0 (sameForm a.form b.form (by unfold LMAX; omega) (by unfold LMAX; omega)) ?_ | refine gcall (sameUses a.uses b.uses (by unfold LMAX; omega) (by unfold LMAX; omega)) ?_); conv => whnf)
  refine ⟨congrArg AV.bool ?_, rfl⟩
  rw [Bool.eq_iff_iff]
  obtain ⟨a1, a2⟩ := a
  obtain ⟨b1, b2⟩ := b
  simp
theorem sameEdges (a b : List Edg) (ha : a.length ≤ 1048576) (hb : b.length ≤ 1048576) (hfa : ∀ x ∈ a, WrdFit x.word) (hfb : ∀ x ∈ b, WrdFit x.word) : QCall Tryz.prog 27 [.sl 7 none (a.map encEdg), .sl 7 none (b.map encEdg)] [] (.bool (decide (a = b))) := by
  refine fcalls (F := Tryz.f27) c27 rfl rfl rfl mixed rfl fun X => ?_
  conv => whnf
  skip
  refine ⟨fun hc => ?_, fun hc => ?_⟩ <;> simp at hc
  · conv => whnf
    refine ⟨congrArg AV.bool (decide_eq_false fun e => ?_).symm, rfl⟩
    rw [e] at hc
    omega
  conv => whnf
  skip
  refine sloop rfl mixed [0, 1, 5] [] (fun m r h => ∃ (i : Nat), r = [(0, [], .sl 7 none (a.map encEdg)), (1, [], .sl 7 none (b.map encEdg)), (5, [], .int .i64 i)] ∧ h = [] ∧ m = a.length - i ∧ i ≤ a.length ∧ decide (a = b) = decide (a.drop i = b.drop i)) ?_ ?_
  · conv => whnf
    exact ⟨_, 0, rfl, rfl, rfl, by omega, rfl⟩
  · rintro m r h ⟨i, rfl, rfl, rfl, hi, hg⟩
    conv => whnf
    skip
    refine ⟨fun hi2 => ?_, fun hi2 => ?_⟩ <;> simp at hi2
    · obtain ⟨x, hx⟩ := get_lt hi2
      obtain ⟨y, hy⟩ := get_lt (l := b) (i := i) (by omega)
      rw [drop_cons hx, drop_cons hy] at hg
      have hz : (!decide (x.frm = y.frm) || !decide (x.to = y.to) || !decide (x.cost = y.cost) || !decide (x.word = y.word)) = !decide (x = y) := by
        rw [Bool.eq_iff_iff]
        obtain ⟨a1, a2, a3, a4⟩ := x
        obtain ⟨b1, b2, b3, b4⟩ := y
        simp [or_assoc]
      conv => whnf
      repeat ((first | refine ix (by assumption) ?_ | refine gcall (sameWord x.word y.word (hfa x (List.mem_of_getElem? hx)) (hfb y (List.mem_of_getElem? hy))) ?_ | refine And.intro (by show drawOK (opsAt Tryz.f27 _) _ = true; decide +kernel) ?_); conv => whnf)
      refine ⟨fun hq => ?_, fun hq => ?_⟩
      · have hq := hz.symm.trans hq
        rw [Bool.not_eq_true', decide_eq_false_iff_not] at hq
        conv => whnf
        skip
        refine ⟨congrArg AV.bool ?_, rfl⟩
        rw [hg]
        symm
        rw [decide_eq_false_iff_not]
        intro h
        exact hq (List.cons.inj h).1
      · have hq := hz.symm.trans hq
        rw [Bool.not_eq_false', decide_eq_true_eq] at hq
        subst hq
        conv => whnf
        repeat (refine ⟨gP_of ⟨by omega, by omega⟩, ?_⟩; conv => whnf)
        refine ⟨_, by omega, i + 1, rfl, rfl, rfl, by omega, ?_⟩
        rw [hg, decide_eq_decide, List.cons.injEq]
        simp
    · rw [drop_nil hi2, drop_nil (by omega)] at hg
      conv => whnf
      skip
      exact ⟨congrArg AV.bool (by rw [hg]; rfl), rfl⟩
end Go.Abs.Wall

