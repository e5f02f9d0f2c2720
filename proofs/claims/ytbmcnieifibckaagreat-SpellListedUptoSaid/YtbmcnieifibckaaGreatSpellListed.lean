/- It is proved that SpellListed answers true for all plain arguments, does not panic, and leaves its arguments alone. The condition of its second statement: the arguments hold together at most 1048576 values and letters. -/
import Derived.Test.YtbmcnieifibckaaGreatN42
import Derived.Test.YtbmcnieifibckaaGreatN24
import Derived.Test.YtbmcnieifibckaaGreatN8
namespace Go.Proofs.YtbmcnieifibckaaGreat.spellListed
open Go Go.Abs Go.Abs.Wall Go.ChangeShapes Go.WideShapes Go.ChangeAt Go.RowKit Go.Proofs.YtbmcnieifibckaaGreat.Br
set_option maxRecDepth 100000
theorem own : ownKnob Tryz.prog.godebug = none := by kernel_rfl
theorem laid : laidOutB Tryz.prog = true := by kernel_rfl
theorem Th : mapsRowed Tryz.prog = true := by kernel_rfl
theorem kids : Kids Tryz.prog (· < Tryz.prog.types.size) := kids_rows laid Th
theorem full : ∀ {t e : TypeId}, t < Tryz.prog.types.size → Tryz.prog.underlying t = some (.slice e) → 0 < Tryz.prog.cellsOf e := fun {t e} => slices_full_of Tryz.prog (by kernel_rfl) t e

theorem law (xs : List AV) (h : De Tryz.prog 1048576 Tryz.f11.params.toList xs) : ae Tryz.prog 11 xs [] (.bool true) := by
  obtain ⟨a, b, c, rfl, h1, h2, h3⟩ := I3 rfl h
  obtain ⟨H, rfl, hf⟩ := I2 h1
  obtain ⟨B, rfl, hB, _⟩ := Spl.WJ h2
  obtain ⟨r, rfl, hl, hw⟩ := Spl.l9 h3
  exact Spl.k9 H B r hf hB hl ⟨hw.cl, hw.text, hw.us⟩

theorem lifted (os : Os) (started : os.Started) (H : Type) (enc : TypeId × Value → H) (F : Stop.Interp) :
    ReturnsInHanded {} Tryz.checked os 11 .any ((Rows.OpenSpec.upto Rows.spellListedSpec).pre6 enc Tryz.prog Tryz.f11 Rows.spellListedUptoRow.domain false) (((Rows.OpenSpec.upto Rows.spellListedSpec).at F).post enc Tryz.prog Tryz.f11 false true false false) := by
  refine returnsInHanded_of_cond (C := Tryz.checked) (s := Rows.OpenSpec.upto Rows.spellListedSpec) (k := Rows.uptoSmall) rfl own started (by kernel_rfl) Tryz.func11
    (OpenSpec.witness (enc := enc) (C := Tryz.checked) (s := Rows.OpenSpec.upto Rows.spellListedSpec) (k := Rows.uptoSmall) rfl false ⟨#[], #[.agg #[.int .i64 0, .slice none 0 0, .slice none 0 0, .slice none 0 0, .slice none 0 0, .int .i64 0, .int .i64 0, .int .i64 0, .int .i64 0, .int .i64 0, .int .i64 0], .agg #[.slice none 0 0, .int .i64 0, .int .i64 0], .agg #[.int .i64 0, .slice none 0 0, .int .i64 0, .int .i64 0, .slice none 0 0, .slice none 0 0]], []⟩ 8 (by kernel_rfl) (by kernel_rfl) (by kernel_rfl)
      (x := ([.agg [.agg [.lit (.int .i64 0), .nil], .agg [.nil, .nil, .nil], .agg [.lit (.int .i64 0), .lit (.int .i64 0), .lit (.int .i64 0), .lit (.int .i64 0), .lit (.int .i64 0)], .lit (.int .i64 0)], .agg [.nil, .lit (.int .i64 0), .lit (.int .i64 0)], .agg [.lit (.int .i64 0), .agg [.nil, .agg [.agg [.lit (.int .i64 0), .lit (.int .i64 0), .nil], .nil]]]], [], [])) (by kernel_rfl) rfl (by kernel_rfl)) ?_
  intro W base args ds gs before KB hW _ hk _
  exact QY (m := 8) (tb := 4) (s := Rows.spellListedSpec) kids full rfl (by
    intro ds hd
    match ds, hd with
    | [a, b, c], _ => rfl) rfl rfl (by decide +kernel) ⟨_, _, rfl, rfl, rfl⟩ law KB hW hk

theorem k1 : (Rows.spellListedUptoRow.inPlace == Tryz.prog.inPlace 11) = true := by kernel_rfl
theorem k2 : (Rows.spellListedUptoRow.unfollowed == Tryz.prog.unfollowed 11) = true := by kernel_rfl
theorem k3 : (Rows.spellListedUptoRow.recurses == Tryz.prog.recurses 11) = true := by kernel_rfl
theorem k4 : (Rows.spellListedUptoRow.named == Tryz.prog.varsNamed 11) = true := by kernel_rfl
theorem both {a b : Bool} (ha : a = true) (hb : b = true) : (a && b) = true := by rw [ha, hb]; rfl
theorem j0 : (Rows.spellListedUptoRow.wf (OpenSpec.ofChange (Rows.OpenSpec.upto Rows.spellListedSpec).bare)) = true := by kernel_rfl
theorem j3 : (Tryz.f11.params.all (Tryz.prog.readableRec ·)) = true := by kernel_rfl
theorem j4 : (namedTie Tryz.prog Rows.spellListedUptoRow.named (Rows.OpenSpec.upto Rows.spellListedSpec).bare.vars) = true := by kernel_rfl
theorem j5 : ((Rows.spellListedUptoRow.stops == [])) = true := by kernel_rfl
theorem j6 : ((Tryz.prog.stops == [])) = true := by kernel_rfl
theorem j7 : ((Rows.spellListedUptoRow.knobs == [])) = true := by kernel_rfl
theorem j8 : ((Tryz.prog.stopKnobs == [])) = true := by kernel_rfl
theorem K3 : ((Rows.spellListedUptoRow.maps == (Tryz.f11.params.toList ++ (Rows.OpenSpec.upto Rows.spellListedSpec).bare.plain.varTypes Tryz.prog).any (Tryz.prog.mapsRec ·))) = true := by kernel_rfl
theorem K4 : ((Rows.spellListedUptoRow.ifaces == (Tryz.f11.params.toList ++ (Rows.OpenSpec.upto Rows.spellListedSpec).bare.plain.varTypes Tryz.prog).any (Tryz.prog.ifacesRec ·))) = true := by kernel_rfl
theorem K5 : ((Rows.spellListedUptoRow.mapsOut == Tryz.prog.mapsAmong Tryz.f11.resultTypes.toList)) = true := by kernel_rfl
theorem K6 : ((Rows.spellListedUptoRow.loops == (Tryz.f11.params.toList ++ (Rows.OpenSpec.upto Rows.spellListedSpec).bare.plain.varTypes Tryz.prog).any (Tryz.prog.loopsFrom ·))) = true := by kernel_rfl
theorem K7 : ((Rows.spellListedUptoRow.wideKeys == (Tryz.f11.params.toList ++ (Rows.OpenSpec.upto Rows.spellListedSpec).bare.plain.varTypes Tryz.prog ++ Tryz.f11.resultTypes.toList).any (Tryz.prog.wideKeysFrom ·))) = true := by kernel_rfl
theorem K8 : ((Rows.OpenSpec.upto Rows.spellListedSpec).bare.vars.all (Tryz.prog.varReadable ·)) = true := by kernel_rfl
theorem K9 : (Tryz.f11.resultTypes.all (fun t => Tryz.prog.readableRec t && decide (t < Tryz.prog.types.size))) = true := by kernel_rfl
theorem L0 : ((Rows.spellListedUptoRow.ifacesOut == Tryz.f11.resultTypes.toList.any (Tryz.prog.ifacesRec ·))) = true := by kernel_rfl
theorem L4 : ((Rows.spellListedUptoRow.loopsOut == Tryz.f11.resultTypes.toList.any (Tryz.prog.loopsFrom ·))) = true := by kernel_rfl
theorem L5 : ((Rows.spellListedUptoRow.plainKeys == Tryz.prog.plainKeys)) = true := by kernel_rfl
theorem L6 : (Rows.spellListedUptoRow.shortTexts.isNone) = true := by kernel_rfl
theorem L7 : (Tryz.prog.stopsHeard) = true := by kernel_rfl
theorem L8 : (Tryz.prog.mayEnter) = true := by kernel_rfl
theorem L9 : ((Rows.spellListedUptoRow.lifted == Tryz.prog.liftsFinal)) = true := by kernel_rfl
theorem M0 : ((Tryz.prog.make == some Rows.spellListedUptoRow.make)) = true := by kernel_rfl
theorem M1 : ((Rows.spellListedUptoRow.kinds == (if Rows.spellListedUptoRow.domain.isEmpty then [] else Tryz.f11.params.toList.map fun t => match Tryz.prog.underlying t with | some (.int k) => some k | _ => none))) = true := by kernel_rfl
theorem M3 : ((Rows.spellListedUptoRow.pinned == Rows.spellListedUptoRow.pinnedBy)) = true := by kernel_rfl
theorem M4 : ((Rows.spellListedUptoRow.veiled == (Tryz.f11.params.toList ++ (Rows.OpenSpec.upto Rows.spellListedSpec).bare.plain.varTypes Tryz.prog ++ Tryz.f11.resultTypes.toList).any (Tryz.prog.veiledRec ·))) = true := by kernel_rfl
theorem M5 : (Rows.spellListedUptoRow.veiledFits Tryz.prog Tryz.f11.params.toList (Tryz.f11.params.toList ++ (Rows.OpenSpec.upto Rows.spellListedSpec).bare.plain.varTypes Tryz.prog ++ Tryz.f11.resultTypes.toList)) = true := by kernel_rfl
theorem closed : joinedFacts Tryz.prog 11 Tryz.f11 (Rows.OpenSpec.upto Rows.spellListedSpec).bare Rows.spellListedUptoRow = true := by
  unfold joinedFacts
  exact both (both (both (both (both (both (both (both (both (both (both (both (both (both (both (both (both (both (both (both (both (both (both (both (both (both (both (both (both (both (both (j0) laid) Th) j3) j4) j5) j6) j7) j8) k1) k2) k3) k4) K3) K4) K5) K6) K7) K8) K9) L0) L4) L5) L6) L7) L8) L9) M0) M1) M3) M4) M5
theorem M6 : Tryz.prog.funcNamed Rows.spellListedUptoRow.func = some 11 := by kernel_rfl

theorem proved : Rows.SpellListedUptoSaid :=
  OpenClaim.holds_of_cond 11 Tryz.f11 rfl rfl rfl rfl rfl rfl rfl ⟨rfl, rfl, rfl, rfl, rfl⟩ rfl rfl rfl rfl rfl M6 Tryz.func11 closed (by unfold Func.isInstance; first | exact ⟨rfl, rfl⟩ | kernel_rfl | exact (of_decide_eq_true (by kernel_rfl))) (by unfold Func.isWrapper; first | (rw [if_pos (by decide +kernel)]; kernel_rfl) | (rw [if_neg (by decide +kernel)]; exact ⟨rfl, rfl⟩))
    (fun os started H enc _ F => lifted os started H enc F)
end Go.Proofs.YtbmcnieifibckaaGreat.spellListed
