/- It is proved that TopDictionary answers true for all plain arguments, does not panic, and leaves its arguments alone. The condition of its second statement: the arguments hold together at most 1048576 values and letters. -/
import Derived.Test.YtdjdbggpgmddnaaGreatN26
import Derived.Test.YtdjdbggpgmddnaaGreatN16
namespace Go.Proofs.YtdjdbggpgmddnaaGreat.topDictionary
open Go Go.Abs Go.Abs.Wall Go.ChangeShapes Go.WideShapes Go.ChangeAt Go.RowKit Go.Proofs.YtdjdbggpgmddnaaGreat.Br
set_option maxRecDepth 100000
theorem own : ownKnob Tryz.prog.godebug = none := by kernel_rfl
theorem laid : laidOutB Tryz.prog = true := by kernel_rfl
theorem rowed : mapsRowed Tryz.prog = true := by kernel_rfl
theorem kids : Kids Tryz.prog (· < Tryz.prog.types.size) := kids_rows laid rowed
theorem full : ∀ {t e : TypeId}, t < Tryz.prog.types.size → Tryz.prog.underlying t = some (.slice e) → 0 < Tryz.prog.cellsOf e := fun {t e} => slices_full_of Tryz.prog (by kernel_rfl) t e

theorem law (xs : List AV) (h : ArgShs Tryz.prog 1048576 Tryz.f3.params.toList xs) : QCall Tryz.prog 3 xs [] (.bool true) := by
  obtain ⟨a, b, rfl, h1, h2⟩ := args2 rfl h
  obtain ⟨H, rfl, hf⟩ := argHou h1
  obtain ⟨l, rfl, hl, _⟩ := Dic.argTxs h2
  exact Dic.topDictionaryL H l hf hl

theorem lifted (os : Os) (started : os.Started) (H : Type) (enc : TypeId × Value → H) (F : Stop.Interp) :
    ReturnsInHanded {} Tryz.checked os 3 .any ((Rows.OpenSpec.upto Rows.topDictionarySpec).pre6 enc Tryz.prog Tryz.f3 Rows.topDictionaryUptoRow.domain false) (((Rows.OpenSpec.upto Rows.topDictionarySpec).at F).post enc Tryz.prog Tryz.f3 false true false false) := by
  refine returnsInHanded_of_cond (C := Tryz.checked) (s := Rows.OpenSpec.upto Rows.topDictionarySpec) (k := Rows.uptoSmall) rfl own started (by kernel_rfl) Tryz.func3
    (OpenSpec.witness (enc := enc) (C := Tryz.checked) (s := Rows.OpenSpec.upto Rows.topDictionarySpec) (k := Rows.uptoSmall) rfl false ⟨#[], #[.agg #[.int .i64 0, .slice none 0 0, .slice none 0 0, .slice none 0 0, .slice none 0 0, .int .i64 0, .int .i64 0, .int .i64 0, .int .i64 0, .int .i64 0, .int .i64 0], .slice none 0 0], []⟩ 8 (by kernel_rfl) (by kernel_rfl) (by kernel_rfl)
      (x := ([.agg [.agg [.lit (.int .i64 0), .nil], .agg [.nil, .nil, .nil], .agg [.lit (.int .i64 0), .lit (.int .i64 0), .lit (.int .i64 0), .lit (.int .i64 0), .lit (.int .i64 0)], .lit (.int .i64 0)], .nil], [], [])) (by kernel_rfl) rfl (by kernel_rfl)) ?_
  intro W base args ds gs before hval hW _ hk _
  exact bridge (m := 8) (tb := 4) (s := Rows.topDictionarySpec) kids full rfl (by
    intro ds hd
    match ds, hd with
    | [a, b], _ => rfl) rfl rfl (by decide +kernel) ⟨_, _, rfl, rfl, rfl⟩ law hval hW hk

theorem k1 : (Rows.topDictionaryUptoRow.inPlace == Tryz.prog.inPlace 3) = true := by kernel_rfl
theorem k2 : (Rows.topDictionaryUptoRow.unfollowed == Tryz.prog.unfollowed 3) = true := by kernel_rfl
theorem k3 : (Rows.topDictionaryUptoRow.recurses == Tryz.prog.recurses 3) = true := by kernel_rfl
theorem k4 : (Rows.topDictionaryUptoRow.named == Tryz.prog.varsNamed 3) = true := by kernel_rfl
theorem both {a b : Bool} (ha : a = true) (hb : b = true) : (a && b) = true := by rw [ha, hb]; rfl
theorem j0 : (Rows.topDictionaryUptoRow.wf (OpenSpec.ofChange (Rows.OpenSpec.upto Rows.topDictionarySpec).bare)) = true := by kernel_rfl
theorem j3 : (Tryz.f3.params.all (Tryz.prog.readableRec ·)) = true := by kernel_rfl
theorem j4 : (namedTie Tryz.prog Rows.topDictionaryUptoRow.named (Rows.OpenSpec.upto Rows.topDictionarySpec).bare.vars) = true := by kernel_rfl
theorem j5 : ((Rows.topDictionaryUptoRow.stops == [])) = true := by kernel_rfl
theorem j6 : ((Tryz.prog.stops == [])) = true := by kernel_rfl
theorem j7 : ((Rows.topDictionaryUptoRow.knobs == [])) = true := by kernel_rfl
theorem j8 : ((Tryz.prog.stopKnobs == [])) = true := by kernel_rfl
theorem j13 : ((Rows.topDictionaryUptoRow.maps == (Tryz.f3.params.toList ++ (Rows.OpenSpec.upto Rows.topDictionarySpec).bare.plain.varTypes Tryz.prog).any (Tryz.prog.mapsRec ·))) = true := by kernel_rfl
theorem j14 : ((Rows.topDictionaryUptoRow.ifaces == (Tryz.f3.params.toList ++ (Rows.OpenSpec.upto Rows.topDictionarySpec).bare.plain.varTypes Tryz.prog).any (Tryz.prog.ifacesRec ·))) = true := by kernel_rfl
theorem j15 : ((Rows.topDictionaryUptoRow.mapsOut == Tryz.prog.mapsAmong Tryz.f3.resultTypes.toList)) = true := by kernel_rfl
theorem j16 : ((Rows.topDictionaryUptoRow.loops == (Tryz.f3.params.toList ++ (Rows.OpenSpec.upto Rows.topDictionarySpec).bare.plain.varTypes Tryz.prog).any (Tryz.prog.loopsFrom ·))) = true := by kernel_rfl
theorem j17 : ((Rows.topDictionaryUptoRow.wideKeys == (Tryz.f3.params.toList ++ (Rows.OpenSpec.upto Rows.topDictionarySpec).bare.plain.varTypes Tryz.prog ++ Tryz.f3.resultTypes.toList).any (Tryz.prog.wideKeysFrom ·))) = true := by kernel_rfl
theorem j18 : ((Rows.OpenSpec.upto Rows.topDictionarySpec).bare.vars.all (Tryz.prog.varReadable ·)) = true := by kernel_rfl
theorem j19 : (Tryz.f3.resultTypes.all (fun t => Tryz.prog.readableRec t && decide (t < Tryz.prog.types.size))) = true := by kernel_rfl
theorem j20 : ((Rows.topDictionaryUptoRow.ifacesOut == Tryz.f3.resultTypes.toList.any (Tryz.prog.ifacesRec ·))) = true := by kernel_rfl
theorem j21 : ((Rows.topDictionaryUptoRow.loopsOut == Tryz.f3.resultTypes.toList.any (Tryz.prog.loopsFrom ·))) = true := by kernel_rfl
theorem j22 : ((Rows.topDictionaryUptoRow.plainKeys == Tryz.prog.plainKeys)) = true := by kernel_rfl
theorem j23 : (Rows.topDictionaryUptoRow.shortTexts.isNone) = true := by kernel_rfl
theorem j24 : (Tryz.prog.stopsHeard) = true := by kernel_rfl
theorem j25 : (Tryz.prog.mayEnter) = true := by kernel_rfl
theorem j26 : ((Rows.topDictionaryUptoRow.lifted == Tryz.prog.liftsFinal)) = true := by kernel_rfl
theorem j27 : ((Tryz.prog.make == some Rows.topDictionaryUptoRow.make)) = true := by kernel_rfl
theorem j28 : ((Rows.topDictionaryUptoRow.kinds == (if Rows.topDictionaryUptoRow.domain.isEmpty then [] else Tryz.f3.params.toList.map fun t => match Tryz.prog.underlying t with | some (.int k) => some k | _ => none))) = true := by kernel_rfl
theorem j29 : ((Rows.topDictionaryUptoRow.pinned == Rows.topDictionaryUptoRow.pinnedBy)) = true := by kernel_rfl
theorem j30 : ((Rows.topDictionaryUptoRow.veiled == (Tryz.f3.params.toList ++ (Rows.OpenSpec.upto Rows.topDictionarySpec).bare.plain.varTypes Tryz.prog ++ Tryz.f3.resultTypes.toList).any (Tryz.prog.veiledRec ·))) = true := by kernel_rfl
theorem j31 : (Rows.topDictionaryUptoRow.veiledFits Tryz.prog Tryz.f3.params.toList (Tryz.f3.params.toList ++ (Rows.OpenSpec.upto Rows.topDictionarySpec).bare.plain.varTypes Tryz.prog ++ Tryz.f3.resultTypes.toList)) = true := by kernel_rfl
theorem closed : joinedFacts Tryz.prog 3 Tryz.f3 (Rows.OpenSpec.upto Rows.topDictionarySpec).bare Rows.topDictionaryUptoRow = true := by
  unfold joinedFacts
  exact both (both (both (both (both (both (both (both (both (both (both (both (both (both (both (both (both (both (both (both (both (both (both (both (both (both (both (both (both (both (both (j0) laid) rowed) j3) j4) j5) j6) j7) j8) k1) k2) k3) k4) j13) j14) j15) j16) j17) j18) j19) j20) j21) j22) j23) j24) j25) j26) j27) j28) j29) j30) j31
theorem fnamed : Tryz.prog.funcNamed Rows.topDictionaryUptoRow.func = some 3 := by kernel_rfl

theorem proved : Rows.TopDictionaryUptoSaid :=
  OpenClaim.holds_of_cond 3 Tryz.f3 rfl rfl rfl rfl rfl rfl rfl ⟨rfl, rfl, rfl, rfl, rfl⟩ rfl rfl rfl rfl rfl fnamed Tryz.func3 closed (by unfold Func.isInstance; first | exact ⟨rfl, rfl⟩ | kernel_rfl | exact (of_decide_eq_true (by kernel_rfl))) (by unfold Func.isWrapper; first | (rw [if_pos (by decide +kernel)]; kernel_rfl) | (rw [if_neg (by decide +kernel)]; exact ⟨rfl, rfl⟩))
    (fun os started H enc _ F => lifted os started H enc F)
end Go.Proofs.YtdjdbggpgmddnaaGreat.topDictionary
