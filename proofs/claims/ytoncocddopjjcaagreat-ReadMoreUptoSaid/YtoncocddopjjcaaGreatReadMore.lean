/- It is proved that ReadMore answers true for all plain arguments, does not panic, and leaves its arguments alone. The condition of its second statement: the arguments hold together at most 1048576 values and letters. -/
import Derived.Test.YtoncocddopjjcaaGreatN23
import Derived.Test.YtoncocddopjjcaaGreatN8
namespace Go.Proofs.YtoncocddopjjcaaGreat.readMore
open Go Go.Abs Go.Abs.Wall Go.ChangeShapes Go.WideShapes Go.ChangeAt Go.RowKit Go.Proofs.YtoncocddopjjcaaGreat.Br
set_option maxRecDepth 100000
theorem own : ownKnob Tryz.prog.godebug = none := by kernel_rfl
theorem laid : laidOutB Tryz.prog = true := by kernel_rfl
theorem rowed : mapsRowed Tryz.prog = true := by kernel_rfl
theorem kids : Kids Tryz.prog (· < Tryz.prog.types.size) := kids_rows laid rowed
theorem full : ∀ {t e : TypeId}, t < Tryz.prog.types.size → Tryz.prog.underlying t = some (.slice e) → 0 < Tryz.prog.cellsOf e := fun {t e} => slices_full_of Tryz.prog (by kernel_rfl) t e

theorem law (xs : List AV) (h : ArgShs Tryz.prog 1048576 Tryz.f13.params.toList xs) : QCall Tryz.prog 13 xs [] (.bool true) := by
  obtain ⟨a, b, c, rfl, h1, h2, h3⟩ := args3 rfl h
  obtain ⟨K, rfl, hf, hb, hl⟩ := argCasB h1
  obtain ⟨B, rfl, hf2, hb2⟩ := argHouB h2
  obtain ⟨ws, rfl, hw, hwa⟩ := argWrds h3
  exact readMoreL K B ws hf hb hl hf2 hb2 ⟨hw, fun w hm => (hwa w hm).cl, fun w hm => (hwa w hm).us, fun w hm => (hwa w hm).text⟩

theorem lifted (os : Os) (started : os.Started) (H : Type) (enc : TypeId × Value → H) (F : Stop.Interp) :
    ReturnsInHanded {} Tryz.checked os 13 .any ((Rows.OpenSpec.upto Rows.readMoreSpec).pre6 enc Tryz.prog Tryz.f13 Rows.readMoreUptoRow.domain false) (((Rows.OpenSpec.upto Rows.readMoreSpec).at F).post enc Tryz.prog Tryz.f13 false true false false) := by
  refine returnsInHanded_of_cond (C := Tryz.checked) (s := Rows.OpenSpec.upto Rows.readMoreSpec) (k := Rows.uptoSmall) rfl own started (by kernel_rfl) Tryz.func13
    (OpenSpec.witness (enc := enc) (C := Tryz.checked) (s := Rows.OpenSpec.upto Rows.readMoreSpec) (k := Rows.uptoSmall) rfl false ⟨#[], #[.agg #[.int .i64 0, .slice none 0 0, .slice none 0 0, .slice none 0 0, .slice none 0 0, .int .i64 0, .int .i64 0, .int .i64 0, .int .i64 0, .int .i64 0, .int .i64 0, .slice none 0 0], .agg #[.int .i64 0, .slice none 0 0, .slice none 0 0, .slice none 0 0, .slice none 0 0, .int .i64 0, .int .i64 0, .int .i64 0, .int .i64 0, .int .i64 0, .int .i64 0], .slice none 0 0], []⟩ 8 (by kernel_rfl) (by kernel_rfl) (by kernel_rfl)
      (x := ([.agg [.agg [.agg [.lit (.int .i64 0), .nil], .agg [.nil, .nil, .nil], .agg [.lit (.int .i64 0), .lit (.int .i64 0), .lit (.int .i64 0), .lit (.int .i64 0), .lit (.int .i64 0)], .lit (.int .i64 0)], .nil], .agg [.agg [.lit (.int .i64 0), .nil], .agg [.nil, .nil, .nil], .agg [.lit (.int .i64 0), .lit (.int .i64 0), .lit (.int .i64 0), .lit (.int .i64 0), .lit (.int .i64 0)], .lit (.int .i64 0)], .nil], [], [])) (by kernel_rfl) rfl (by kernel_rfl)) ?_
  intro W base args ds gs before hval hW _ hk _
  exact bridge (m := 8) (tb := 4) (s := Rows.readMoreSpec) kids full rfl (by
    intro ds hd
    match ds, hd with
    | [a, b, c], _ => rfl) rfl rfl (by decide +kernel) ⟨_, _, rfl, rfl, rfl⟩ law hval hW hk

theorem k1 : (Rows.readMoreUptoRow.inPlace == Tryz.prog.inPlace 13) = true := by kernel_rfl
theorem k2 : (Rows.readMoreUptoRow.unfollowed == Tryz.prog.unfollowed 13) = true := by kernel_rfl
theorem k3 : (Rows.readMoreUptoRow.recurses == Tryz.prog.recurses 13) = true := by kernel_rfl
theorem k4 : (Rows.readMoreUptoRow.named == Tryz.prog.varsNamed 13) = true := by kernel_rfl
theorem closed : joinedFacts Tryz.prog 13 Tryz.f13 (Rows.OpenSpec.upto Rows.readMoreSpec).bare Rows.readMoreUptoRow = true := by
  unfold joinedFacts
  rw [laid, rowed, k1, k2, k3, k4]
  kernel_rfl
theorem fnamed : Tryz.prog.funcNamed Rows.readMoreUptoRow.func = some 13 := by kernel_rfl

theorem proved : Rows.ReadMoreUptoSaid :=
  OpenClaim.holds_of_cond 13 Tryz.f13 rfl rfl rfl rfl rfl rfl rfl ⟨rfl, rfl, rfl, rfl, rfl⟩ rfl rfl rfl rfl rfl fnamed Tryz.func13 closed (by unfold Func.isInstance; first | exact ⟨rfl, rfl⟩ | kernel_rfl | exact (of_decide_eq_true (by kernel_rfl))) (by unfold Func.isWrapper; first | (rw [if_pos (by decide +kernel)]; kernel_rfl) | (rw [if_neg (by decide +kernel)]; exact ⟨rfl, rfl⟩))
    (fun os started H enc _ F => lifted os started H enc F)
end Go.Proofs.YtoncocddopjjcaaGreat.readMore
