/- What is proved: small laws for the walks of this seat, and contracts of its functions. No condition but those each theorem names. -/
import Derived.Test.YtoncocddopjjcaaGreatN9
import Derived.Test.YtoncocddopjjcaaGreatN8
set_option maxRecDepth 100000
set_option linter.unusedVariables false
set_option linter.unusedSimpArgs false
namespace Go.Abs.Wall
open Go Go.Abs Go.Proofs
/-! ### the words of a place, the specification's -/
structure TabOK (H : Hou) (tbl : List (List Use)) (a : Nat) (f : Frm) : Prop where
  hou : HouOK H
  fit : HouFit H
  entry : 0 ≤ f.entry ∧ f.entry < H.lex.entries.length
  ending : -1 ≤ f.ending ∧ f.ending < H.lex.endings.length
  uses : ∀ us ∈ tbl, us.length ≤ 1048576 ∧ ∀ u ∈ us, UseOK u
  len : tbl.length ≤ 1048576
  at_ : a ≤ tbl.length
theorem TabOK.sp {H : Hou} {tbl : List (List Use)} {a : Nat} {f : Frm} (h : TabOK H tbl a f) : SpOK (spOf H f) := spAt (at_ := 0) h.hou h.entry.1 h.entry.2 h.ending.2
end Go.Abs.Wall
set_option maxRecDepth 100000
set_option linter.unusedVariables false
set_option linter.unusedSimpArgs false
namespace Go.Abs.Wall
open Go Go.Abs Go.Proofs
/-! ### the words of a place in order, the specification's -/
structure TabW (H : Hou) (tbl : List (List Use)) (a : Nat) : Prop where
  hou : HouOK H
  fit : HouFit H
  uses : ∀ us ∈ tbl, us.length ≤ 1048576 ∧ ∀ u ∈ us, UseOK u
  len : tbl.length ≤ 1048576
  at_ : a ≤ tbl.length
theorem TabW.ok {H : Hou} {tbl : List (List Use)} {a : Nat} (h : TabW H tbl a) {e n : Int} (he : 0 ≤ e ∧ e < H.lex.entries.length) (hn : -1 ≤ n ∧ n < H.lex.endings.length) : TabOK H tbl a ⟨e, n, []⟩ := ⟨h.hou, h.fit, he, hn, h.uses, h.len, h.at_⟩
theorem TabW.all {H : Hou} {tbl : List (List Use)} {a : Nat} (h : TabW H tbl a) : ((tbl.drop a).take 12).length ≤ 12 ∧ ∀ us ∈ (tbl.drop a).take 12, us.length ≤ 1048576 ∧ ∀ u ∈ us, UseOK u :=
  ⟨by rw [List.length_take]; omega, fun us hus => h.uses us (List.mem_of_mem_drop (List.mem_of_mem_take hus))⟩
end Go.Abs.Wall
set_option maxRecDepth 100000
set_option linter.unusedVariables false
set_option linter.unusedSimpArgs false
namespace Go.Abs.Wall
open Go Go.Abs Go.Proofs
def c24 : Cfg := ⟨[0, 1, 2, 4, 5, 41], [], [5], [], [], []⟩
def c82 : Cfg := ⟨[0, 1, 2, 3, 4], [], [], [], [], []⟩
def c43 : Cfg := ⟨[0, 1, 2, 3, 4], [], [], [], [], []⟩
def c4 : Cfg := ⟨[0, 1, 2, 3, 6, 7, 8, 9, 10, 13], [], [], [], [], []⟩
end Go.Abs.Wall
set_option maxRecDepth 100000
set_option linter.unusedVariables false
set_option linter.unusedSimpArgs false
namespace Go.Abs.Wall
open Go Go.Abs Go.Proofs
/-! ### what the laws compare -/
def largeM (H : Hou) (line : List Int) : Bool :=
  if ((decide (60 < (H.lex.entries.length : Int)) && decide ((H.lex.entries.length : Int) ≤ 200)) || (decide (12 < (H.lex.endings.length : Int)) && decide ((H.lex.endings.length : Int) ≤ 40)) || (decide (6 < (H.lex.clitics.length : Int)) && decide ((H.lex.clitics.length : Int) ≤ 10))) = true then true
  else decide (16 < (line.length : Int)) && decide ((line.length : Int) ≤ 60)
theorem largeW (H : Hou) (line : List Int) : QCall Tryz.prog 24 [.agg (encHou H), .sl 1 none (ints line)] [] (.bool (largeM H line)) := by
  obtain ⟨b, hb⟩ : ∃ b, b = largeM H line := ⟨_, rfl⟩
  rw [← hb]
  unfold largeM at hb
  rw [← List.length_map (f := encEnt), ← List.length_map (f := encEdn), ← List.length_map (f := encCli), ← ints_length] at hb
  refine fcalls (F := Tryz.f24) c24 rfl rfl rfl mixed rfl fun X => ?_
  conv => whnf
  intro b5
  conv => whnf
  repeat (refine ⟨_, _, Rem.here _, ⟨Nat.le_of_ble_eq_true rfl, rfl⟩, ?_⟩; conv => whnf)
  refine ⟨fun hq => ?_, fun hq => ?_⟩
  · rw [if_pos hq] at hb
    conv => whnf
    exact ⟨by rw [hb], rfl⟩
  · rw [if_neg (by rw [show _ = false from hq]; decide)] at hb
    conv => whnf
    skip
    exact ⟨by rw [hb], rfl⟩
theorem sameForm (a b : Frm) (ha : a.clitics.length ≤ LMAX) (hb : b.clitics.length ≤ LMAX) : QCall Tryz.prog 82 [.agg (encFrm a), .agg (encFrm b)] [] (.bool (decide (a = b))) := by
  refine fcalls (F := Tryz.f82) c82 rfl rfl rfl mixed rfl fun X => ?_
  conv => whnf
  repeat (refine gcall (sameInts a.clitics b.clitics ha hb) ?_; conv => whnf)
  refine ⟨congrArg AV.bool ?_, rfl⟩
  rw [Bool.eq_iff_iff]
  obtain ⟨a1, a2, a3⟩ := a
  obtain ⟨b1, b2, b3⟩ := b
  simp [and_assoc]
theorem sameWord (a b : Wrd) (ha : WrdFit a) (hb : WrdFit b) : QCall Tryz.prog 43 [.agg (encWrd a), .agg (encWrd b)] [] (.bool (decide (a = b))) := by
  have h1 := ha.cl; have h2 := ha.us; have h3 := hb.cl; have h4 := hb.us
  refine fcalls (F := Tryz.f43) c43 rfl rfl rfl mixed rfl fun X => ?_
  conv => whnf
  repeat ((first | refine QCall.k0 (sameForm a.form b.form (by unfold LMAX; omega) (by unfold LMAX; omega)) ?_ | refine gcall (sameUses a.uses b.uses (by unfold LMAX; omega) (by unfold LMAX; omega)) ?_); conv => whnf)
  refine ⟨congrArg AV.bool ?_, rfl⟩
  rw [Bool.eq_iff_iff]
  obtain ⟨a1, a2⟩ := a
  obtain ⟨b1, b2⟩ := b
  simp
end Go.Abs.Wall

