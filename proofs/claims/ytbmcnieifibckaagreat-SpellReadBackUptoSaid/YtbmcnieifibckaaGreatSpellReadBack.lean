/- It is proved that SpellReadBack answers true for all plain arguments, does not panic, and leaves its arguments alone. The condition of its second statement: the arguments hold together at most 1048576 values and letters. -/
import Derived.Test.YtbmcnieifibckaaGreatN43
import Derived.Test.YtbmcnieifibckaaGreatN24
import Derived.Test.YtbmcnieifibckaaGreatN8
namespace Go.Proofs.YtbmcnieifibckaaGreat.spellReadBack
open Go Go.Abs Go.Abs.Wall Go.ChangeShapes Go.WideShapes Go.ChangeAt Go.RowKit Go.Proofs.YtbmcnieifibckaaGreat.Br
set_option maxRecDepth 100000
theorem own : ownKnob Tryz.prog.godebug = none := by kernel_rfl
theorem laid : laidOutB Tryz.prog = true := by kernel_rfl
theorem xT : mapsRowed Tryz.prog = true := by kernel_rfl
theorem kids : Kids Tryz.prog (· < Tryz.prog.types.size) := kids_rows laid xT
theorem full : ∀ {t e : TypeId}, t < Tryz.prog.types.size → Tryz.prog.underlying t = some (.slice e) → 0 < Tryz.prog.cellsOf e := fun {t e} => slices_full_of Tryz.prog (by kernel_rfl) t e

theorem law (xs : List AV) (h : xJ Tryz.prog 1048576 Tryz.f15.params.toList xs) : ae Tryz.prog 15 xs [] (.bool true) := by
  obtain ⟨a, b, c, rfl, h1, h2, h3⟩ := UW rfl h
  obtain ⟨H, rfl, hf⟩ := MW h1
  obtain ⟨B, rfl, hB, _⟩ := Spl.QR h2
  obtain ⟨l, rfl, hl, hc⟩ := Spl.Yz h3
  exact Spl.E5 H B l hf hB hl hc

theorem lifted (os : Os) (started : os.Started) (H : Type) (enc : TypeId × Value → H) (F : Stop.Interp) :
    ReturnsInHanded {} Tryz.checked os 15 .any ((Rows.OpenSpec.upto Rows.spellReadBackSpec).pre6 enc Tryz.prog Tryz.f15 Rows.spellReadBackUptoRow.domain false) (((Rows.OpenSpec.upto Rows.spellReadBackSpec).at F).post enc Tryz.prog Tryz.f15 false true false false) := by
  refine returnsInHanded_of_cond (C := Tryz.checked) (s := Rows.OpenSpec.upto Rows.spellReadBackSpec) (k := Rows.uptoSmall) rfl own started (by kernel_rfl) Tryz.func15
    (OpenSpec.witness (enc := enc) (C := Tryz.checked) (s := Rows.OpenSpec.upto Rows.spellReadBackSpec) (k := Rows.uptoSmall) rfl false ⟨#[], #[.agg #[.int .i64 0, .slice none 0 0, .slice none 0 0, .slice none 0 0, .slice none 0 0, .int .i64 0, .int .i64 0, .int .i64 0, .int .i64 0, .int .i64 0, .int .i64 0], .agg #[.slice none 0 0, .int .i64 0, .int .i64 0], .slice none 0 0], []⟩ 8 (by kernel_rfl) (by kernel_rfl) (by kernel_rfl)
      (x := ([.agg [.agg [.lit (.int .i64 0), .nil], .agg [.nil, .nil, .nil], .agg [.lit (.int .i64 0), .lit (.int .i64 0), .lit (.int .i64 0), .lit (.int .i64 0), .lit (.int .i64 0)], .lit (.int .i64 0)], .agg [.nil, .lit (.int .i64 0), .lit (.int .i64 0)], .nil], [], [])) (by kernel_rfl) rfl (by kernel_rfl)) ?_
  intro W base args ds gs before zL hW _ hk _
  exact HA (m := 8) (tb := 4) (s := Rows.spellReadBackSpec) kids full rfl (by
    intro ds hd
    match ds, hd with
    | [a, b, c], _ => rfl) rfl rfl (by decide +kernel) ⟨_, _, rfl, rfl, rfl⟩ law zL hW hk

theorem k1 : (Rows.spellReadBackUptoRow.inPlace == Tryz.prog.inPlace 15) = true := by kernel_rfl
theorem k2 : (Rows.spellReadBackUptoRow.unfollowed == Tryz.prog.unfollowed 15) = true := by kernel_rfl
theorem k3 : (Rows.spellReadBackUptoRow.recurses == Tryz.prog.recurses 15) = true := by kernel_rfl
theorem k4 : (Rows.spellReadBackUptoRow.named == Tryz.prog.varsNamed 15) = true := by kernel_rfl
theorem both {a b : Bool} (ha : a = true) (hb : b = true) : (a && b) = true := by rw [ha, hb]; rfl
theorem j0 : (Rows.spellReadBackUptoRow.wf (OpenSpec.ofChange (Rows.OpenSpec.upto Rows.spellReadBackSpec).bare)) = true := by kernel_rfl
theorem j3 : (Tryz.f15.params.all (Tryz.prog.readableRec ·)) = true := by kernel_rfl
theorem j4 : (namedTie Tryz.prog Rows.spellReadBackUptoRow.named (Rows.OpenSpec.upto Rows.spellReadBackSpec).bare.vars) = true := by kernel_rfl
theorem j5 : ((Rows.spellReadBackUptoRow.stops == [])) = true := by kernel_rfl
theorem j6 : ((Tryz.prog.stops == [])) = true := by kernel_rfl
theorem j7 : ((Rows.spellReadBackUptoRow.knobs == [])) = true := by kernel_rfl
theorem j8 : ((Tryz.prog.stopKnobs == [])) = true := by kernel_rfl
theorem Ey : ((Rows.spellReadBackUptoRow.maps == (Tryz.f15.params.toList ++ (Rows.OpenSpec.upto Rows.spellReadBackSpec).bare.plain.varTypes Tryz.prog).any (Tryz.prog.mapsRec ·))) = true := by kernel_rfl
theorem Ez : ((Rows.spellReadBackUptoRow.ifaces == (Tryz.f15.params.toList ++ (Rows.OpenSpec.upto Rows.spellReadBackSpec).bare.plain.varTypes Tryz.prog).any (Tryz.prog.ifacesRec ·))) = true := by kernel_rfl
theorem EA : ((Rows.spellReadBackUptoRow.mapsOut == Tryz.prog.mapsAmong Tryz.f15.resultTypes.toList)) = true := by kernel_rfl
theorem EB : ((Rows.spellReadBackUptoRow.loops == (Tryz.f15.params.toList ++ (Rows.OpenSpec.upto Rows.spellReadBackSpec).bare.plain.varTypes Tryz.prog).any (Tryz.prog.loopsFrom ·))) = true := by kernel_rfl
theorem EC : ((Rows.spellReadBackUptoRow.wideKeys == (Tryz.f15.params.toList ++ (Rows.OpenSpec.upto Rows.spellReadBackSpec).bare.plain.varTypes Tryz.prog ++ Tryz.f15.resultTypes.toList).any (Tryz.prog.wideKeysFrom ·))) = true := by kernel_rfl
theorem ED : ((Rows.OpenSpec.upto Rows.spellReadBackSpec).bare.vars.all (Tryz.prog.varReadable ·)) = true := by kernel_rfl
theorem EE : (Tryz.f15.resultTypes.all (fun t => Tryz.prog.readableRec t && decide (t < Tryz.prog.types.size))) = true := by kernel_rfl
theorem EF : ((Rows.spellReadBackUptoRow.ifacesOut == Tryz.f15.resultTypes.toList.any (Tryz.prog.ifacesRec ·))) = true := by kernel_rfl
theorem EG : ((Rows.spellReadBackUptoRow.loopsOut == Tryz.f15.resultTypes.toList.any (Tryz.prog.loopsFrom ·))) = true := by kernel_rfl
theorem EH : ((Rows.spellReadBackUptoRow.plainKeys == Tryz.prog.plainKeys)) = true := by kernel_rfl
theorem EI : (Rows.spellReadBackUptoRow.shortTexts.isNone) = true := by kernel_rfl
theorem EJ : (Tryz.prog.stopsHeard) = true := by kernel_rfl
theorem EK : (Tryz.prog.mayEnter) = true := by kernel_rfl
theorem EL : ((Rows.spellReadBackUptoRow.lifted == Tryz.prog.liftsFinal)) = true := by kernel_rfl
theorem EM : ((Tryz.prog.make == some Rows.spellReadBackUptoRow.make)) = true := by kernel_rfl
theorem EN : ((Rows.spellReadBackUptoRow.kinds == (if Rows.spellReadBackUptoRow.domain.isEmpty then [] else Tryz.f15.params.toList.map fun t => match Tryz.prog.underlying t with | some (.int k) => some k | _ => none))) = true := by kernel_rfl
theorem EO : ((Rows.spellReadBackUptoRow.pinned == Rows.spellReadBackUptoRow.pinnedBy)) = true := by kernel_rfl
theorem EP : ((Rows.spellReadBackUptoRow.veiled == (Tryz.f15.params.toList ++ (Rows.OpenSpec.upto Rows.spellReadBackSpec).bare.plain.varTypes Tryz.prog ++ Tryz.f15.resultTypes.toList).any (Tryz.prog.veiledRec ·))) = true := by kernel_rfl
theorem ER : (Rows.spellReadBackUptoRow.veiledFits Tryz.prog Tryz.f15.params.toList (Tryz.f15.params.toList ++ (Rows.OpenSpec.upto Rows.spellReadBackSpec).bare.plain.varTypes Tryz.prog ++ Tryz.f15.resultTypes.toList)) = true := by kernel_rfl
theorem closed : joinedFacts Tryz.prog 15 Tryz.f15 (Rows.OpenSpec.upto Rows.spellReadBackSpec).bare Rows.spellReadBackUptoRow = true := by
  unfold joinedFacts
  exact both (both (both (both (both (both (both (both (both (both (both (both (both (both (both (both (both (both (both (both (both (both (both (both (both (both (both (both (both (both (both (j0) laid) xT) j3) j4) j5) j6) j7) j8) k1) k2) k3) k4) Ey) Ez) EA) EB) EC) ED) EE) EF) EG) EH) EI) EJ) EK) EL) EM) EN) EO) EP) ER
theorem ES : Tryz.prog.funcNamed Rows.spellReadBackUptoRow.func = some 15 := by kernel_rfl

theorem proved : Rows.SpellReadBackUptoSaid :=
  OpenClaim.holds_of_cond 15 Tryz.f15 rfl rfl rfl rfl rfl rfl rfl ⟨rfl, rfl, rfl, rfl, rfl⟩ rfl rfl rfl rfl rfl ES Tryz.func15 closed (by unfold Func.isInstance; first | exact ⟨rfl, rfl⟩ | kernel_rfl | exact (of_decide_eq_true (by kernel_rfl))) (by unfold Func.isWrapper; first | (rw [if_pos (by decide +kernel)]; kernel_rfl) | (rw [if_neg (by decide +kernel)]; exact ⟨rfl, rfl⟩))
    (fun os started H enc _ F => lifted os started H enc F)
end Go.Proofs.YtbmcnieifibckaaGreat.spellReadBack
