/- What is proved: small laws for the walks of this seat, and contracts of its functions. No condition but those each theorem names. -/
import Derived.Test.YthkokengobdgcaaGreatN25
set_option maxRecDepth 100000
set_option maxHeartbeats 2000000
set_option linter.unusedVariables false
set_option linter.unusedSimpArgs false
namespace Go.Abs.Wall.Lst
open Go Go.Abs Go.Proofs Go.Abs.Wall Go.Proofs.YthkokengobdgcaaGreat.Br
/-! ### Check -/
structure NdsFit (l : List Nd) : Prop where
  many : l.length ≤ 1048576
  each : ∀ x ∈ l, NdFit x
end Go.Abs.Wall.Lst
set_option maxRecDepth 100000
set_option maxHeartbeats 2000000
set_option linter.unusedVariables false
set_option linter.unusedSimpArgs false
namespace Go.Abs.Wall.Lst
open Go Go.Abs Go.Proofs Go.Abs.Wall Go.Proofs.YthkokengobdgcaaGreat.Br
/-! ### what is induced is needed -/
def c43 : Cfg := ⟨[0, 2, 3, 7, 14], [], [], [], [], []⟩
theorem lallW (l : List Bool) (hl : l.length ≤ 1048576) : QCall Tryz.prog 43 [.sl 1 none (l.map encB)] [] (.bool (l.all id)) := by
  refine fcalls (F := Tryz.f43) c43 rfl rfl rfl mixed rfl fun X => ?_
  conv => whnf
  skip
  refine sloop rfl mixed [0, 3] [] (fun m r h => ∃ (i : Nat), r = [(0, [], .sl 1 none (l.map encB)), (3, [], .int .i64 i)] ∧ h = [] ∧ m = l.length - i ∧ i ≤ l.length ∧ l.all id = (l.drop i).all id) ?_ ?_
  · conv => whnf
    exact ⟨_, 0, rfl, rfl, rfl, by omega, rfl⟩
  · rintro m r h ⟨i, rfl, rfl, rfl, hi, hg⟩
    conv => whnf
    skip
    refine ⟨fun hi2 => ?_, fun hi2 => ?_⟩ <;> simp at hi2
    · obtain ⟨x, hx⟩ := get_lt hi2
      rw [drop_cons hx, List.all_cons] at hg
      conv => whnf
      repeat (refine ix (by assumption) ?_; conv => whnf)
      refine ⟨fun hq => ?_, fun hq => ?_⟩ <;> simp at hq
      · subst hq
        conv => whnf
        skip
        exact ⟨congrArg AV.bool (by rw [hg]; rfl), rfl⟩
      · subst hq
        conv => whnf
        repeat (refine ⟨gP_of ⟨by omega, by omega⟩, ?_⟩; conv => whnf)
        exact ⟨_, by omega, i + 1, rfl, rfl, rfl, by omega, hg⟩
    · rw [drop_nil hi2] at hg
      conv => whnf
      skip
      exact ⟨congrArg AV.bool (by rw [hg]; rfl), rfl⟩
/-! ### more is chosen: no line is lost -/
end Go.Abs.Wall.Lst

