/- It is proved that SpellRewrites answers true for all plain arguments, does not panic, and leaves its arguments alone. The condition of its second statement: the arguments hold together at most 1048576 values and letters. -/
import Derived.Test.YthmcbjcgdfmmaaaGreatN38
import Derived.Test.YthmcbjcgdfmmaaaGreatN24
import Derived.Test.YthmcbjcgdfmmaaaGreatN8
namespace Go.Proofs.YthmcbjcgdfmmaaaGreat.spellRewrites
open Go Go.Abs Go.Abs.Wall Go.ChangeShapes Go.WideShapes Go.ChangeAt Go.RowKit Go.Proofs.YthmcbjcgdfmmaaaGreat.Br
set_option maxRecDepth 100000
theorem own : ownKnob Tryz.prog.godebug = none := by kernel_rfl
theorem laid : laidOutB Tryz.prog = true := by kernel_rfl
theorem TM : mapsRowed Tryz.prog = true := by kernel_rfl
theorem kids : Kids Tryz.prog (· < Tryz.prog.types.size) := kids_rows laid TM
theorem full : ∀ {t e : TypeId}, t < Tryz.prog.types.size → Tryz.prog.underlying t = some (.slice e) → 0 < Tryz.prog.cellsOf e := fun {t e} => slices_full_of Tryz.prog (by kernel_rfl) t e

theorem law (xs : List AV) (h : Ei Tryz.prog 1048576 Tryz.f3.params.toList xs) : ab Tryz.prog 3 xs [] (.bool true) := by
  obtain ⟨a, b, c, rfl, h1, h2, h3⟩ := M1 rfl h
  obtain ⟨H, rfl, hf⟩ := L9 h1
  obtain ⟨B, rfl, hB, _⟩ := Spl.Xq h2
  obtain ⟨l, rfl, hl, _⟩ := M0 h3
  exact Spl.ZF H B l hf hB hl

theorem lifted (os : Os) (started : os.Started) (H : Type) (enc : TypeId × Value → H) (F : Stop.Interp) :
    ReturnsInHanded {} Tryz.checked os 3 .any ((Rows.OpenSpec.upto Rows.spellRewritesSpec).pre6 enc Tryz.prog Tryz.f3 Rows.spellRewritesUptoRow.domain false) (((Rows.OpenSpec.upto Rows.spellRewritesSpec).at F).post enc Tryz.prog Tryz.f3 false true false false) := by
  refine returnsInHanded_of_cond (C := Tryz.checked) (s := Rows.OpenSpec.upto Rows.spellRewritesSpec) (k := Rows.uptoSmall) rfl own started (by kernel_rfl) Tryz.func3
    (OpenSpec.witness (enc := enc) (C := Tryz.checked) (s := Rows.OpenSpec.upto Rows.spellRewritesSpec) (k := Rows.uptoSmall) rfl false ⟨#[], #[.agg #[.int .i64 0, .slice none 0 0, .slice none 0 0, .slice none 0 0, .slice none 0 0, .int .i64 0, .int .i64 0, .int .i64 0, .int .i64 0, .int .i64 0, .int .i64 0], .agg #[.slice none 0 0, .int .i64 0, .int .i64 0], .slice none 0 0], []⟩ 8 (by kernel_rfl) (by kernel_rfl) (by kernel_rfl)
      (x := ([.agg [.agg [.lit (.int .i64 0), .nil], .agg [.nil, .nil, .nil], .agg [.lit (.int .i64 0), .lit (.int .i64 0), .lit (.int .i64 0), .lit (.int .i64 0), .lit (.int .i64 0)], .lit (.int .i64 0)], .agg [.nil, .lit (.int .i64 0), .lit (.int .i64 0)], .nil], [], [])) (by kernel_rfl) rfl (by kernel_rfl)) ?_
  intro W base args ds gs before LM hW _ hk _
  exact RW (m := 8) (tb := 4) (s := Rows.spellRewritesSpec) kids full rfl (by
    intro ds hd
    match ds, hd with
    | [a, b, c], _ => rfl) rfl rfl (by decide +kernel) ⟨_, _, rfl, rfl, rfl⟩ law LM hW hk

theorem k1 : (Rows.spellRewritesUptoRow.inPlace == Tryz.prog.inPlace 3) = true := by kernel_rfl
theorem k2 : (Rows.spellRewritesUptoRow.unfollowed == Tryz.prog.unfollowed 3) = true := by kernel_rfl
theorem k3 : (Rows.spellRewritesUptoRow.recurses == Tryz.prog.recurses 3) = true := by kernel_rfl
theorem k4 : (Rows.spellRewritesUptoRow.named == Tryz.prog.varsNamed 3) = true := by kernel_rfl
theorem both {a b : Bool} (ha : a = true) (hb : b = true) : (a && b) = true := by rw [ha, hb]; rfl
theorem j0 : (Rows.spellRewritesUptoRow.wf (OpenSpec.ofChange (Rows.OpenSpec.upto Rows.spellRewritesSpec).bare)) = true := by kernel_rfl
theorem j3 : (Tryz.f3.params.all (Tryz.prog.readableRec ·)) = true := by kernel_rfl
theorem j4 : (namedTie Tryz.prog Rows.spellRewritesUptoRow.named (Rows.OpenSpec.upto Rows.spellRewritesSpec).bare.vars) = true := by kernel_rfl
theorem j5 : ((Rows.spellRewritesUptoRow.stops == [])) = true := by kernel_rfl
theorem j6 : ((Tryz.prog.stops == [])) = true := by kernel_rfl
theorem j7 : ((Rows.spellRewritesUptoRow.knobs == [])) = true := by kernel_rfl
theorem j8 : ((Tryz.prog.stopKnobs == [])) = true := by kernel_rfl
theorem N2 : ((Rows.spellRewritesUptoRow.maps == (Tryz.f3.params.toList ++ (Rows.OpenSpec.upto Rows.spellRewritesSpec).bare.plain.varTypes Tryz.prog).any (Tryz.prog.mapsRec ·))) = true := by kernel_rfl
theorem N3 : ((Rows.spellRewritesUptoRow.ifaces == (Tryz.f3.params.toList ++ (Rows.OpenSpec.upto Rows.spellRewritesSpec).bare.plain.varTypes Tryz.prog).any (Tryz.prog.ifacesRec ·))) = true := by kernel_rfl
theorem N4 : ((Rows.spellRewritesUptoRow.mapsOut == Tryz.prog.mapsAmong Tryz.f3.resultTypes.toList)) = true := by kernel_rfl
theorem N5 : ((Rows.spellRewritesUptoRow.loops == (Tryz.f3.params.toList ++ (Rows.OpenSpec.upto Rows.spellRewritesSpec).bare.plain.varTypes Tryz.prog).any (Tryz.prog.loopsFrom ·))) = true := by kernel_rfl
theorem N6 : ((Rows.spellRewritesUptoRow.wideKeys == (Tryz.f3.params.toList ++ (Rows.OpenSpec.upto Rows.spellRewritesSpec).bare.plain.varTypes Tryz.prog ++ Tryz.f3.resultTypes.toList).any (Tryz.prog.wideKeysFrom ·))) = true := by kernel_rfl
theorem N7 : ((Rows.OpenSpec.upto Rows.spellRewritesSpec).bare.vars.all (Tryz.prog.varReadable ·)) = true := by kernel_rfl
theorem N8 : (Tryz.f3.resultTypes.all (fun t => Tryz.prog.readableRec t && decide (t < Tryz.prog.types.size))) = true := by kernel_rfl
theorem N9 : ((Rows.spellRewritesUptoRow.ifacesOut == Tryz.f3.resultTypes.toList.any (Tryz.prog.ifacesRec ·))) = true := by kernel_rfl
theorem O0 : ((Rows.spellRewritesUptoRow.loopsOut == Tryz.f3.resultTypes.toList.any (Tryz.prog.loopsFrom ·))) = true := by kernel_rfl
theorem O1 : ((Rows.spellRewritesUptoRow.plainKeys == Tryz.prog.plainKeys)) = true := by kernel_rfl
theorem O2 : (Rows.spellRewritesUptoRow.shortTexts.isNone) = true := by kernel_rfl
theorem O3 : (Tryz.prog.stopsHeard) = true := by kernel_rfl
theorem O4 : (Tryz.prog.mayEnter) = true := by kernel_rfl
theorem O5 : ((Rows.spellRewritesUptoRow.lifted == Tryz.prog.liftsFinal)) = true := by kernel_rfl
theorem O6 : ((Tryz.prog.make == some Rows.spellRewritesUptoRow.make)) = true := by kernel_rfl
theorem O7 : ((Rows.spellRewritesUptoRow.kinds == (if Rows.spellRewritesUptoRow.domain.isEmpty then [] else Tryz.f3.params.toList.map fun t => match Tryz.prog.underlying t with | some (.int k) => some k | _ => none))) = true := by kernel_rfl
theorem O8 : ((Rows.spellRewritesUptoRow.pinned == Rows.spellRewritesUptoRow.pinnedBy)) = true := by kernel_rfl
theorem O9 : ((Rows.spellRewritesUptoRow.veiled == (Tryz.f3.params.toList ++ (Rows.OpenSpec.upto Rows.spellRewritesSpec).bare.plain.varTypes Tryz.prog ++ Tryz.f3.resultTypes.toList).any (Tryz.prog.veiledRec ·))) = true := by kernel_rfl
theorem P0 : (Rows.spellRewritesUptoRow.veiledFits Tryz.prog Tryz.f3.params.toList (Tryz.f3.params.toList ++ (Rows.OpenSpec.upto Rows.spellRewritesSpec).bare.plain.varTypes Tryz.prog ++ Tryz.f3.resultTypes.toList)) = true := by kernel_rfl
theorem closed : joinedFacts Tryz.prog 3 Tryz.f3 (Rows.OpenSpec.upto Rows.spellRewritesSpec).bare Rows.spellRewritesUptoRow = true := by
  unfold joinedFacts
  exact both (both (both (both (both (both (both (both (both (both (both (both (both (both (both (both (both (both (both (both (both (both (both (both (both (both (both (both (both (both (both (j0) laid) TM) j3) j4) j5) j6) j7) j8) k1) k2) k3) k4) N2) N3) N4) N5) N6) N7) N8) N9) O0) O1) O2) O3) O4) O5) O6) O7) O8) O9) P0
theorem P1 : Tryz.prog.funcNamed Rows.spellRewritesUptoRow.func = some 3 := by kernel_rfl

theorem proved : Rows.SpellRewritesUptoSaid :=
  OpenClaim.holds_of_cond 3 Tryz.f3 rfl rfl rfl rfl rfl rfl rfl ⟨rfl, rfl, rfl, rfl, rfl⟩ rfl rfl rfl rfl rfl P1 Tryz.func3 closed (by unfold Func.isInstance; first | exact ⟨rfl, rfl⟩ | kernel_rfl | exact (of_decide_eq_true (by kernel_rfl))) (by unfold Func.isWrapper; first | (rw [if_pos (by decide +kernel)]; kernel_rfl) | (rw [if_neg (by decide +kernel)]; exact ⟨rfl, rfl⟩))
    (fun os started H enc _ F => lifted os started H enc F)
end Go.Proofs.YthmcbjcgdfmmaaaGreat.spellRewrites
