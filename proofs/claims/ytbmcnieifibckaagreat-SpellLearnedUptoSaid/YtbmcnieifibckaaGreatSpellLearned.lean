/- It is proved that SpellLearned answers true for all plain arguments, does not panic, and leaves its arguments alone. The condition of its second statement: the arguments hold together at most 1048576 values and letters. -/
import Derived.Test.YtbmcnieifibckaaGreatN44
import Derived.Test.YtbmcnieifibckaaGreatN24
import Derived.Test.YtbmcnieifibckaaGreatN8
namespace Go.Proofs.YtbmcnieifibckaaGreat.spellLearned
open Go Go.Abs Go.Abs.Wall Go.ChangeShapes Go.WideShapes Go.ChangeAt Go.RowKit Go.Proofs.YtbmcnieifibckaaGreat.Br
set_option maxRecDepth 100000
theorem own : ownKnob Tryz.prog.godebug = none := by kernel_rfl
theorem laid : laidOutB Tryz.prog = true := by kernel_rfl
theorem xU : mapsRowed Tryz.prog = true := by kernel_rfl
theorem kids : Kids Tryz.prog (· < Tryz.prog.types.size) := kids_rows laid xU
theorem full : ∀ {t e : TypeId}, t < Tryz.prog.types.size → Tryz.prog.underlying t = some (.slice e) → 0 < Tryz.prog.cellsOf e := fun {t e} => slices_full_of Tryz.prog (by kernel_rfl) t e

theorem law (xs : List AV) (h : xK Tryz.prog 1048576 Tryz.f16.params.toList xs) : ae Tryz.prog 16 xs [] (.bool true) := by
  obtain ⟨a, b, rfl, h1, h2⟩ := S3 rfl h
  obtain ⟨H, rfl, hf⟩ := MT h1
  obtain ⟨l, rfl, hl, hc⟩ := Spl.ZD h2
  exact Spl.F5 H l hf hl hc

theorem lifted (os : Os) (started : os.Started) (H : Type) (enc : TypeId × Value → H) (F : Stop.Interp) :
    ReturnsInHanded {} Tryz.checked os 16 .any ((Rows.OpenSpec.upto Rows.spellLearnedSpec).pre6 enc Tryz.prog Tryz.f16 Rows.spellLearnedUptoRow.domain false) (((Rows.OpenSpec.upto Rows.spellLearnedSpec).at F).post enc Tryz.prog Tryz.f16 false true false false) := by
  refine returnsInHanded_of_cond (C := Tryz.checked) (s := Rows.OpenSpec.upto Rows.spellLearnedSpec) (k := Rows.uptoSmall) rfl own started (by kernel_rfl) Tryz.func16
    (OpenSpec.witness (enc := enc) (C := Tryz.checked) (s := Rows.OpenSpec.upto Rows.spellLearnedSpec) (k := Rows.uptoSmall) rfl false ⟨#[], #[.agg #[.int .i64 0, .slice none 0 0, .slice none 0 0, .slice none 0 0, .slice none 0 0, .int .i64 0, .int .i64 0, .int .i64 0, .int .i64 0, .int .i64 0, .int .i64 0], .slice none 0 0], []⟩ 8 (by kernel_rfl) (by kernel_rfl) (by kernel_rfl)
      (x := ([.agg [.agg [.lit (.int .i64 0), .nil], .agg [.nil, .nil, .nil], .agg [.lit (.int .i64 0), .lit (.int .i64 0), .lit (.int .i64 0), .lit (.int .i64 0), .lit (.int .i64 0)], .lit (.int .i64 0)], .nil], [], [])) (by kernel_rfl) rfl (by kernel_rfl)) ?_
  intro W base args ds gs before zN hW _ hk _
  exact HB (m := 8) (tb := 4) (s := Rows.spellLearnedSpec) kids full rfl (by
    intro ds hd
    match ds, hd with
    | [a, b], _ => rfl) rfl rfl (by decide +kernel) ⟨_, _, rfl, rfl, rfl⟩ law zN hW hk

theorem k1 : (Rows.spellLearnedUptoRow.inPlace == Tryz.prog.inPlace 16) = true := by kernel_rfl
theorem k2 : (Rows.spellLearnedUptoRow.unfollowed == Tryz.prog.unfollowed 16) = true := by kernel_rfl
theorem k3 : (Rows.spellLearnedUptoRow.recurses == Tryz.prog.recurses 16) = true := by kernel_rfl
theorem k4 : (Rows.spellLearnedUptoRow.named == Tryz.prog.varsNamed 16) = true := by kernel_rfl
theorem both {a b : Bool} (ha : a = true) (hb : b = true) : (a && b) = true := by rw [ha, hb]; rfl
theorem j0 : (Rows.spellLearnedUptoRow.wf (OpenSpec.ofChange (Rows.OpenSpec.upto Rows.spellLearnedSpec).bare)) = true := by kernel_rfl
theorem j3 : (Tryz.f16.params.all (Tryz.prog.readableRec ·)) = true := by kernel_rfl
theorem j4 : (namedTie Tryz.prog Rows.spellLearnedUptoRow.named (Rows.OpenSpec.upto Rows.spellLearnedSpec).bare.vars) = true := by kernel_rfl
theorem j5 : ((Rows.spellLearnedUptoRow.stops == [])) = true := by kernel_rfl
theorem j6 : ((Tryz.prog.stops == [])) = true := by kernel_rfl
theorem j7 : ((Rows.spellLearnedUptoRow.knobs == [])) = true := by kernel_rfl
theorem j8 : ((Tryz.prog.stopKnobs == [])) = true := by kernel_rfl
theorem Ew : ((Rows.spellLearnedUptoRow.maps == (Tryz.f16.params.toList ++ (Rows.OpenSpec.upto Rows.spellLearnedSpec).bare.plain.varTypes Tryz.prog).any (Tryz.prog.mapsRec ·))) = true := by kernel_rfl
theorem Ey : ((Rows.spellLearnedUptoRow.ifaces == (Tryz.f16.params.toList ++ (Rows.OpenSpec.upto Rows.spellLearnedSpec).bare.plain.varTypes Tryz.prog).any (Tryz.prog.ifacesRec ·))) = true := by kernel_rfl
theorem Ez : ((Rows.spellLearnedUptoRow.mapsOut == Tryz.prog.mapsAmong Tryz.f16.resultTypes.toList)) = true := by kernel_rfl
theorem EA : ((Rows.spellLearnedUptoRow.loops == (Tryz.f16.params.toList ++ (Rows.OpenSpec.upto Rows.spellLearnedSpec).bare.plain.varTypes Tryz.prog).any (Tryz.prog.loopsFrom ·))) = true := by kernel_rfl
theorem EB : ((Rows.spellLearnedUptoRow.wideKeys == (Tryz.f16.params.toList ++ (Rows.OpenSpec.upto Rows.spellLearnedSpec).bare.plain.varTypes Tryz.prog ++ Tryz.f16.resultTypes.toList).any (Tryz.prog.wideKeysFrom ·))) = true := by kernel_rfl
theorem EC : ((Rows.OpenSpec.upto Rows.spellLearnedSpec).bare.vars.all (Tryz.prog.varReadable ·)) = true := by kernel_rfl
theorem ED : (Tryz.f16.resultTypes.all (fun t => Tryz.prog.readableRec t && decide (t < Tryz.prog.types.size))) = true := by kernel_rfl
theorem EE : ((Rows.spellLearnedUptoRow.ifacesOut == Tryz.f16.resultTypes.toList.any (Tryz.prog.ifacesRec ·))) = true := by kernel_rfl
theorem EF : ((Rows.spellLearnedUptoRow.loopsOut == Tryz.f16.resultTypes.toList.any (Tryz.prog.loopsFrom ·))) = true := by kernel_rfl
theorem EG : ((Rows.spellLearnedUptoRow.plainKeys == Tryz.prog.plainKeys)) = true := by kernel_rfl
theorem EH : (Rows.spellLearnedUptoRow.shortTexts.isNone) = true := by kernel_rfl
theorem EI : (Tryz.prog.stopsHeard) = true := by kernel_rfl
theorem EJ : (Tryz.prog.mayEnter) = true := by kernel_rfl
theorem EK : ((Rows.spellLearnedUptoRow.lifted == Tryz.prog.liftsFinal)) = true := by kernel_rfl
theorem EL : ((Tryz.prog.make == some Rows.spellLearnedUptoRow.make)) = true := by kernel_rfl
theorem EM : ((Rows.spellLearnedUptoRow.kinds == (if Rows.spellLearnedUptoRow.domain.isEmpty then [] else Tryz.f16.params.toList.map fun t => match Tryz.prog.underlying t with | some (.int k) => some k | _ => none))) = true := by kernel_rfl
theorem EN : ((Rows.spellLearnedUptoRow.pinned == Rows.spellLearnedUptoRow.pinnedBy)) = true := by kernel_rfl
theorem EO : ((Rows.spellLearnedUptoRow.veiled == (Tryz.f16.params.toList ++ (Rows.OpenSpec.upto Rows.spellLearnedSpec).bare.plain.varTypes Tryz.prog ++ Tryz.f16.resultTypes.toList).any (Tryz.prog.veiledRec ·))) = true := by kernel_rfl
theorem EP : (Rows.spellLearnedUptoRow.veiledFits Tryz.prog Tryz.f16.params.toList (Tryz.f16.params.toList ++ (Rows.OpenSpec.upto Rows.spellLearnedSpec).bare.plain.varTypes Tryz.prog ++ Tryz.f16.resultTypes.toList)) = true := by kernel_rfl
theorem closed : joinedFacts Tryz.prog 16 Tryz.f16 (Rows.OpenSpec.upto Rows.spellLearnedSpec).bare Rows.spellLearnedUptoRow = true := by
  unfold joinedFacts
  exact both (both (both (both (both (both (both (both (both (both (both (both (both (both (both (both (both (both (both (both (both (both (both (both (both (both (both (both (both (both (both (j0) laid) xU) j3) j4) j5) j6) j7) j8) k1) k2) k3) k4) Ew) Ey) Ez) EA) EB) EC) ED) EE) EF) EG) EH) EI) EJ) EK) EL) EM) EN) EO) EP
theorem ER : Tryz.prog.funcNamed Rows.spellLearnedUptoRow.func = some 16 := by kernel_rfl

theorem proved : Rows.SpellLearnedUptoSaid :=
  OpenClaim.holds_of_cond 16 Tryz.f16 rfl rfl rfl rfl rfl rfl rfl ⟨rfl, rfl, rfl, rfl, rfl⟩ rfl rfl rfl rfl rfl ER Tryz.func16 closed (by unfold Func.isInstance; first | exact ⟨rfl, rfl⟩ | kernel_rfl | exact (of_decide_eq_true (by kernel_rfl))) (by unfold Func.isWrapper; first | (rw [if_pos (by decide +kernel)]; kernel_rfl) | (rw [if_neg (by decide +kernel)]; exact ⟨rfl, rfl⟩))
    (fun os started H enc _ F => lifted os started H enc F)
end Go.Proofs.YtbmcnieifibckaaGreat.spellLearned
