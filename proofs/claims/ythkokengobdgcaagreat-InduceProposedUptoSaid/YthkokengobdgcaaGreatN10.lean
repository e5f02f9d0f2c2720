/- What is proved: small laws for the walks of this seat, and contracts of its functions. No condition but those each theorem names. -/
import Derived.Test.YthkokengobdgcaaGreatN9
import Derived.Test.YthkokengobdgcaaGreatN8
set_option maxRecDepth 100000
set_option maxHeartbeats 2000000
set_option linter.unusedVariables false
set_option linter.unusedSimpArgs false
namespace Go.Abs.Wall
open Go Go.Abs Go.Proofs
/-! ### the words of a place, the specification's -/
structure TabOK (H : Hou) (tbl : List (List Use)) (a : Nat) (f : Frm) : Prop where
  hou : HouOK H
  fit : HouFit H
  entry : 0 ≤ f.entry ∧ f.entry < H.lex.entries.length
  ending : -1 ≤ f.ending ∧ f.ending < H.lex.endings.length
  uses : ∀ us ∈ tbl, us.length ≤ 1048576 ∧ ∀ u ∈ us, UseOK u
  len : tbl.length ≤ 1048576
  at_ : a ≤ tbl.length
theorem TabOK.sp {H : Hou} {tbl : List (List Use)} {a : Nat} {f : Frm} (h : TabOK H tbl a f) : SpOK (spOf H f) := spAt (at_ := 0) h.hou h.entry.1 h.entry.2 h.ending.2
end Go.Abs.Wall
set_option maxRecDepth 100000
set_option maxHeartbeats 2000000
set_option linter.unusedVariables false
set_option linter.unusedSimpArgs false
namespace Go.Abs.Wall
open Go Go.Abs Go.Proofs
/-! ### the words of a place in order, the specification's -/
structure TabW (H : Hou) (tbl : List (List Use)) (a : Nat) : Prop where
  hou : HouOK H
  fit : HouFit H
  uses : ∀ us ∈ tbl, us.length ≤ 1048576 ∧ ∀ u ∈ us, UseOK u
  len : tbl.length ≤ 1048576
  at_ : a ≤ tbl.length
theorem TabW.ok {H : Hou} {tbl : List (List Use)} {a : Nat} (h : TabW H tbl a) {e n : Int} (he : 0 ≤ e ∧ e < H.lex.entries.length) (hn : -1 ≤ n ∧ n < H.lex.endings.length) : TabOK H tbl a ⟨e, n, []⟩ := ⟨h.hou, h.fit, he, hn, h.uses, h.len, h.at_⟩
theorem TabW.all {H : Hou} {tbl : List (List Use)} {a : Nat} (h : TabW H tbl a) : ((tbl.drop a).take 12).length ≤ 12 ∧ ∀ us ∈ (tbl.drop a).take 12, us.length ≤ 1048576 ∧ ∀ u ∈ us, UseOK u :=
  ⟨by rw [List.length_take]; omega, fun us hus => h.uses us (List.mem_of_mem_drop (List.mem_of_mem_take hus))⟩
end Go.Abs.Wall
set_option maxRecDepth 100000
set_option maxHeartbeats 2000000
set_option linter.unusedVariables false
set_option linter.unusedSimpArgs false
namespace Go.Abs.Wall
open Go Go.Abs Go.Proofs
def c38 : Cfg := ⟨[0, 1, 2, 3, 6, 7, 8, 9, 14, 20, 27], [], [], [], [], []⟩
def wordsE (H : Hou) (line : List Int) (a : Int) : Int :=
  if lineErr H line ≠ 0 then lineErr H line else if wthn a 0 line.length = false then 1 else if 2000 < (edgsAt H line a.toNat).length then 2 else 0
def wordsLs (H : Hou) (line : List Int) (a : Int) : List Edg := if wordsE H line a = 0 then edgsAt H line a.toNat else []
theorem wordsX (H : Hou) (line : List Int) (a : Int) (hf : HouFit H) (hl : line.length ≤ 1048576) :
    QCall Tryz.prog 38 [.agg (encHou H), .sl 1 none (ints line), .int .i64 a] [] (.tup [.sl 7 none ((wordsLs H line a).map encEdg), .int .i64 (wordsE H line a)]) := by
  refine QCall.of ?_
  refine fcalls (F := Tryz.f38) c38 rfl rfl rfl mixed rfl fun X => ?_
  conv => whnf
  repeat ((first | refine ⟨gP_of ⟨by omega, by omega⟩, ?_⟩ | refine ix (by assumption) ?_ | refine sx (by assumption) ?_ | refine QCall.k0 (checkW H line hf (by unfold LMAX; omega)) ?_
                 | refine gcall (checkW H line hf (by unfold LMAX; omega)) ?_ | refine ⟨_, _, Rem.here _, ⟨Nat.le_of_ble_eq_true rfl, rfl⟩, ?_⟩ | refine ⟨_, _, Rem.here _, ?_⟩
                 | refine ⟨_, _, Rem.there (.here _), ?_⟩ | refine ⟨_, _, .head _, rfl, ?_⟩ | refine ⟨_, _, .tail _ (.head _), rfl, ?_⟩ | refine ⟨_, _, .here _, leOK, ?_⟩
                 | refine ⟨_, _, .there (.here _), leOK, ?_⟩ | refine And.intro (by show drawOK (opsAt Tryz.f38 _) _ = true; decide +kernel) ?_ | intro (nb : Nat)); conv => whnf)
  refine ⟨fun h1 => ?_, fun h1 => ?_⟩ <;> simp at h1
  · have he : wordsE H line a = lineErr H line := by rw [wordsE, if_pos h1]
    conv => whnf
    repeat ((first | refine ⟨gP_of ⟨by omega, by omega⟩, ?_⟩ | refine ix (by assumption) ?_ | refine sx (by assumption) ?_ | refine ⟨_, _, Rem.here _, ⟨Nat.le_of_ble_eq_true rfl, rfl⟩, ?_⟩
                   | refine ⟨_, _, Rem.here _, ?_⟩ | refine ⟨_, _, Rem.there (.here _), ?_⟩ | refine ⟨_, _, .head _, rfl, ?_⟩ | refine ⟨_, _, .tail _ (.head _), rfl, ?_⟩
                   | refine ⟨_, _, .here _, leOK, ?_⟩ | refine ⟨_, _, .there (.here _), leOK, ?_⟩ | refine And.intro (by show drawOK (opsAt Tryz.f38 _) _ = true; decide +kernel) ?_
                   | intro (nb : Nat)); conv => whnf)
    rw [wordsLs, he, if_neg h1]
    exact VLe.tup (.cons (VLe.nil (by decide)) (.cons (VLe.refl _) .nil))
  have hL := lineOK h1
  conv => whnf
  repeat ((first | refine ⟨gP_of ⟨by omega, by omega⟩, ?_⟩ | refine ix (by assumption) ?_ | refine sx (by assumption) ?_ | refine QCall.k0 (within _ _ _) ?_ | refine gcall (within _ _ _) ?_
                 | refine ⟨_, _, Rem.here _, ⟨Nat.le_of_ble_eq_true rfl, rfl⟩, ?_⟩ | refine ⟨_, _, Rem.here _, ?_⟩ | refine ⟨_, _, Rem.there (.here _), ?_⟩ | refine ⟨_, _, .head _, rfl, ?_⟩
                 | refine ⟨_, _, .tail _ (.head _), rfl, ?_⟩ | refine ⟨_, _, .here _, leOK, ?_⟩ | refine ⟨_, _, .there (.here _), leOK, ?_⟩ | refine And.intro (by show drawOK (opsAt Tryz.f38 _) _ = true; decide +kernel) ?_
                 | intro (nb : Nat)); conv => whnf)
  refine ⟨fun h2 => ?_, fun h2 => ?_⟩
  · have h2 : (!wthn a 0 ((ints line).length : Int)) = true := h2
    rw [ints_length, Bool.not_eq_true'] at h2
    have he : wordsE H line a = 1 := by rw [wordsE, if_neg (by omega), if_pos h2]
    conv => whnf
    repeat ((first | refine ⟨gP_of ⟨by omega, by omega⟩, ?_⟩ | refine ix (by assumption) ?_ | refine sx (by assumption) ?_ | refine ⟨_, _, Rem.here _, ⟨Nat.le_of_ble_eq_true rfl, rfl⟩, ?_⟩
                   | refine ⟨_, _, Rem.here _, ?_⟩ | refine ⟨_, _, Rem.there (.here _), ?_⟩ | refine ⟨_, _, .head _, rfl, ?_⟩ | refine ⟨_, _, .tail _ (.head _), rfl, ?_⟩
                   | refine ⟨_, _, .here _, leOK, ?_⟩ | refine ⟨_, _, .there (.here _), leOK, ?_⟩ | refine And.intro (by show drawOK (opsAt Tryz.f38 _) _ = true; decide +kernel) ?_
                   | intro (nb : Nat)); conv => whnf)
    rw [wordsLs, he, if_neg (by decide)]
    exact VLe.tup (.cons (VLe.nil (by decide)) (.cons (VLe.refl _) .nil))
  have h2 : (!wthn a 0 ((ints line).length : Int)) = false := h2
  rw [ints_length, Bool.not_eq_false', wthn_iff] at h2
  obtain ⟨n, rfl⟩ : ∃ n : Nat, a = (n : Int) := ⟨a.toNat, by omega⟩
  have h0' : wordsE H line n = if 2000 < (edgsAt H line n).length then 2 else 0 := by rw [wordsE, if_neg (by omega), if_neg (by rw [Bool.not_eq_false, wthn_iff]; omega)]; rfl
  conv => whnf
  repeat ((first | refine ⟨gP_of ⟨by omega, by omega⟩, ?_⟩ | refine ix (by assumption) ?_ | refine sx (by assumption) ?_ | refine QCall.k0 (wordsW H line n 2000 hL.hou hf hL.signs hl (by omega) (by decide)) ?_
                 | refine gcall (wordsW H line n 2000 hL.hou hf hL.signs hl (by omega) (by decide)) ?_ | refine ⟨_, _, Rem.here _, ⟨Nat.le_of_ble_eq_true rfl, rfl⟩, ?_⟩
                 | refine ⟨_, _, Rem.here _, ?_⟩ | refine ⟨_, _, Rem.there (.here _), ?_⟩ | refine ⟨_, _, .head _, rfl, ?_⟩ | refine ⟨_, _, .tail _ (.head _), rfl, ?_⟩
                 | refine ⟨_, _, .here _, leOK, ?_⟩ | refine ⟨_, _, .there (.here _), leOK, ?_⟩ | refine And.intro (by show drawOK (opsAt Tryz.f38 _) _ = true; decide +kernel) ?_
                 | intro (nb : Nat)); conv => whnf)
  by_cases hb : (edgsAt H line n).length ≤ 2000
  · rw [if_neg (by omega)] at h0'
    rw [wordsM_fits hb]
    refine cF (by simp; omega) ?_
    conv => whnf
    repeat ((first | refine ⟨gP_of ⟨by omega, by omega⟩, ?_⟩ | refine ix (by assumption) ?_ | refine sx (by assumption) ?_ | refine ⟨_, _, Rem.here _, ⟨Nat.le_of_ble_eq_true rfl, rfl⟩, ?_⟩
                   | refine ⟨_, _, Rem.here _, ?_⟩ | refine ⟨_, _, Rem.there (.here _), ?_⟩ | refine ⟨_, _, .head _, rfl, ?_⟩ | refine ⟨_, _, .tail _ (.head _), rfl, ?_⟩
                   | refine ⟨_, _, .here _, leOK, ?_⟩ | refine ⟨_, _, .there (.here _), leOK, ?_⟩ | refine And.intro (by show drawOK (opsAt Tryz.f38 _) _ = true; decide +kernel) ?_
                   | intro (nb : Nat)); conv => whnf)
    rw [wordsLs, h0', if_pos rfl]
    exact VLe.refl _
  · rw [if_pos (by omega)] at h0'
    have hlg := wordsM_long (H := H) (line := line) (at_ := n) (most := 2000) (by omega)
    refine cT (by rw [List.length_map, hlg]; decide) ?_
    conv => whnf
    repeat ((first | refine ⟨gP_of ⟨by omega, by omega⟩, ?_⟩ | refine ix (by assumption) ?_ | refine sx (by assumption) ?_ | refine ⟨_, _, Rem.here _, ⟨Nat.le_of_ble_eq_true rfl, rfl⟩, ?_⟩
                   | refine ⟨_, _, Rem.here _, ?_⟩ | refine ⟨_, _, Rem.there (.here _), ?_⟩ | refine ⟨_, _, .head _, rfl, ?_⟩ | refine ⟨_, _, .tail _ (.head _), rfl, ?_⟩
                   | refine ⟨_, _, .here _, leOK, ?_⟩ | refine ⟨_, _, .there (.here _), leOK, ?_⟩ | refine And.intro (by show drawOK (opsAt Tryz.f38 _) _ = true; decide +kernel) ?_
                   | intro (nb : Nat)); conv => whnf)
    rw [wordsLs, h0', if_neg (by decide)]
    exact VLe.tup (.cons (VLe.nil (by decide)) (.cons (VLe.refl _) .nil))
end Go.Abs.Wall
set_option maxRecDepth 100000
set_option maxHeartbeats 2000000
set_option linter.unusedVariables false
set_option linter.unusedSimpArgs false
namespace Go.Abs.Wall
open Go Go.Abs Go.Proofs
/-! ### what the laws compare -/
end Go.Abs.Wall

