/- It is proved that WallMakes answers true for all plain arguments, does not panic, and leaves its arguments alone. The condition of its second statement: the arguments hold together at most 1048576 values and letters. -/
import Derived.Test.YtbgnfchlelhbeaaM15
import Derived.Test.YtbgnfchlelhbeaaM7
namespace Go.Proofs.Ytbgnfchlelhbeaa.wallMakes
open Go Go.Abs Go.Abs.Wall Go.ChangeShapes Go.WideShapes Go.ChangeAt Go.RowKit Go.Proofs.Ytbgnfchlelhbeaa.Br
set_option maxRecDepth 100000
theorem own : ownKnob Try.prog.godebug = none := by kernel_rfl
theorem laid : laidOutB Try.prog = true := by kernel_rfl
theorem rowed : mapsRowed Try.prog = true := by kernel_rfl
theorem kids : Kids Try.prog (· < Try.prog.types.size) := kids_rows laid rowed
theorem full : ∀ {t e : TypeId}, t < Try.prog.types.size → Try.prog.underlying t = some (.slice e) → 0 < Try.prog.cellsOf e := fun {t e} => slices_full_of Try.prog (by kernel_rfl) t e

theorem law (xs : List AV) (h : ArgShs Try.prog 1048576 Try.f17.params.toList xs) : QCall Try.prog 17 xs [] (.bool true) := by
  obtain ⟨x, y, z, rfl, h1, h2, h3⟩ := args3 rfl h
  obtain ⟨l, rfl, hl⟩ := shLst h1
  obtain ⟨a, rfl, ha⟩ := argCels h2
  obtain ⟨ms, ls, k, rfl, hm, h4, h5⟩ := argMarked h3
  exact lawMakes l a ms ls k hl ha hm h4 h5

theorem lifted (os : Os) (started : os.Started) (H : Type) (enc : TypeId × Value → H) (F : Stop.Interp) :
    ReturnsInHanded {} Try.checked os 17 .any ((Rows.OpenSpec.upto Rows.wallMakesSpec).pre6 enc Try.prog Try.f17 Rows.wallMakesUptoRow.domain false) (((Rows.OpenSpec.upto Rows.wallMakesSpec).at F).post enc Try.prog Try.f17 false true false false) := by
  refine returnsInHanded_of_cond (C := Try.checked) (s := Rows.OpenSpec.upto Rows.wallMakesSpec) (k := Rows.uptoSmall) rfl own started (by kernel_rfl) Try.func17
    (OpenSpec.witness (enc := enc) (C := Try.checked) (s := Rows.OpenSpec.upto Rows.wallMakesSpec) (k := Rows.uptoSmall) rfl false ⟨#[], #[.agg #[.int .i64 0, .slice none 0 0], .slice none 0 0, .agg #[.slice none 0 0, .slice none 0 0, .int .i64 0]], []⟩ 8 (by kernel_rfl) (by kernel_rfl) (by kernel_rfl)
      (x := ([.agg [.lit (.int .i64 0), .nil], .nil, .agg [.nil, .nil, .lit (.int .i64 0)]], [], [])) (by kernel_rfl) rfl (by kernel_rfl)) ?_
  intro W base args ds gs before hval hW _ hk _
  exact bridge (m := 8) (tb := 4) (s := Rows.wallMakesSpec) kids full rfl (by
    intro ds hd
    match ds, hd with
    | [a, b, c], _ => rfl) rfl rfl (by decide +kernel) law hval hW hk

theorem proved : Rows.WallMakesUptoSaid :=
  OpenClaim.holds_of_cond 17 Try.f17 rfl rfl rfl rfl rfl rfl rfl ⟨rfl, rfl, rfl, rfl, rfl⟩ rfl rfl rfl rfl rfl (by kernel_rfl) Try.func17 (by kernel_rfl)
    (of_decide_eq_true (by kernel_rfl)) (by unfold Func.isWrapper; first | (rw [if_pos (by decide +kernel)]; kernel_rfl) | (rw [if_neg (by decide +kernel)]; exact ⟨rfl, rfl⟩))
    (fun os started H enc _ F => lifted os started H enc F)
end Go.Proofs.Ytbgnfchlelhbeaa.wallMakes
