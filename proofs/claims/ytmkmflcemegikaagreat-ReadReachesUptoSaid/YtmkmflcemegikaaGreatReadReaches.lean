/- It is proved that ReadReaches answers true for all plain arguments, does not panic, and leaves its arguments alone. The condition of its second statement: the arguments hold together at most 1048576 values and letters. -/
import Derived.Test.YtmkmflcemegikaaGreatN22
import Derived.Test.YtmkmflcemegikaaGreatN8
namespace Go.Proofs.YtmkmflcemegikaaGreat.readReaches
open Go Go.Abs Go.Abs.Wall Go.ChangeShapes Go.WideShapes Go.ChangeAt Go.RowKit Go.Proofs.YtmkmflcemegikaaGreat.Br
set_option maxRecDepth 100000
theorem own : ownKnob Tryz.prog.godebug = none := by kernel_rfl
theorem laid : laidOutB Tryz.prog = true := by kernel_rfl
theorem rowed : mapsRowed Tryz.prog = true := by kernel_rfl
theorem kids : Kids Tryz.prog (· < Tryz.prog.types.size) := kids_rows laid rowed
theorem full : ∀ {t e : TypeId}, t < Tryz.prog.types.size → Tryz.prog.underlying t = some (.slice e) → 0 < Tryz.prog.cellsOf e := fun {t e} => slices_full_of Tryz.prog (by kernel_rfl) t e

theorem law (xs : List AV) (h : ArgShs Tryz.prog 1048576 Tryz.f4.params.toList xs) : QCall Tryz.prog 4 xs [] (.bool true) := by
  obtain ⟨a, b, rfl, h1, h2⟩ := args2 rfl h
  obtain ⟨K, rfl, hf, hl⟩ := argCas h1
  obtain ⟨n, rfl, hn⟩ := argInt h2
  exact Lst.readReachesL K.house K.line n hf hl hn

theorem lifted (os : Os) (started : os.Started) (H : Type) (enc : TypeId × Value → H) (F : Stop.Interp) :
    ReturnsInHanded {} Tryz.checked os 4 .any ((Rows.OpenSpec.upto Rows.readReachesSpec).pre6 enc Tryz.prog Tryz.f4 Rows.readReachesUptoRow.domain false) (((Rows.OpenSpec.upto Rows.readReachesSpec).at F).post enc Tryz.prog Tryz.f4 false true false false) := by
  refine returnsInHanded_of_cond (C := Tryz.checked) (s := Rows.OpenSpec.upto Rows.readReachesSpec) (k := Rows.uptoSmall) rfl own started (by kernel_rfl) Tryz.func4
    (OpenSpec.witness (enc := enc) (C := Tryz.checked) (s := Rows.OpenSpec.upto Rows.readReachesSpec) (k := Rows.uptoSmall) rfl false ⟨#[], #[.agg #[.int .i64 0, .slice none 0 0, .slice none 0 0, .slice none 0 0, .slice none 0 0, .int .i64 0, .int .i64 0, .int .i64 0, .int .i64 0, .int .i64 0, .int .i64 0, .slice none 0 0], .int .i64 0], []⟩ 8 (by kernel_rfl) (by kernel_rfl) (by kernel_rfl)
      (x := ([.agg [.agg [.agg [.lit (.int .i64 0), .nil], .agg [.nil, .nil, .nil], .agg [.lit (.int .i64 0), .lit (.int .i64 0), .lit (.int .i64 0), .lit (.int .i64 0), .lit (.int .i64 0)], .lit (.int .i64 0)], .nil], .lit (.int .i64 0)], [], [])) (by kernel_rfl) rfl (by kernel_rfl)) ?_
  intro W base args ds gs before hval hW _ hk _
  exact bridge (m := 8) (tb := 4) (s := Rows.readReachesSpec) kids full rfl (by
    intro ds hd
    match ds, hd with
    | [a, b], _ => rfl) rfl rfl (by decide +kernel) ⟨_, _, rfl, rfl, rfl⟩ law hval hW hk

theorem k1 : (Rows.readReachesUptoRow.inPlace == Tryz.prog.inPlace 4) = true := by kernel_rfl
theorem k2 : (Rows.readReachesUptoRow.unfollowed == Tryz.prog.unfollowed 4) = true := by kernel_rfl
theorem k3 : (Rows.readReachesUptoRow.recurses == Tryz.prog.recurses 4) = true := by kernel_rfl
theorem k4 : (Rows.readReachesUptoRow.named == Tryz.prog.varsNamed 4) = true := by kernel_rfl
theorem both {a b : Bool} (ha : a = true) (hb : b = true) : (a && b) = true := by rw [ha, hb]; rfl
theorem j0 : (Rows.readReachesUptoRow.wf (OpenSpec.ofChange (Rows.OpenSpec.upto Rows.readReachesSpec).bare)) = true := by kernel_rfl
theorem j3 : (Tryz.f4.params.all (Tryz.prog.readableRec ·)) = true := by kernel_rfl
theorem j4 : (namedTie Tryz.prog Rows.readReachesUptoRow.named (Rows.OpenSpec.upto Rows.readReachesSpec).bare.vars) = true := by kernel_rfl
theorem j5 : ((Rows.readReachesUptoRow.stops == [])) = true := by kernel_rfl
theorem j6 : ((Tryz.prog.stops == [])) = true := by kernel_rfl
theorem j7 : ((Rows.readReachesUptoRow.knobs == [])) = true := by kernel_rfl
theorem j8 : ((Tryz.prog.stopKnobs == [])) = true := by kernel_rfl
theorem j13 : ((Rows.readReachesUptoRow.maps == (Tryz.f4.params.toList ++ (Rows.OpenSpec.upto Rows.readReachesSpec).bare.plain.varTypes Tryz.prog).any (Tryz.prog.mapsRec ·))) = true := by kernel_rfl
theorem j14 : ((Rows.readReachesUptoRow.ifaces == (Tryz.f4.params.toList ++ (Rows.OpenSpec.upto Rows.readReachesSpec).bare.plain.varTypes Tryz.prog).any (Tryz.prog.ifacesRec ·))) = true := by kernel_rfl
theorem j15 : ((Rows.readReachesUptoRow.mapsOut == Tryz.prog.mapsAmong Tryz.f4.resultTypes.toList)) = true := by kernel_rfl
theorem j16 : ((Rows.readReachesUptoRow.loops == (Tryz.f4.params.toList ++ (Rows.OpenSpec.upto Rows.readReachesSpec).bare.plain.varTypes Tryz.prog).any (Tryz.prog.loopsFrom ·))) = true := by kernel_rfl
theorem j17 : ((Rows.readReachesUptoRow.wideKeys == (Tryz.f4.params.toList ++ (Rows.OpenSpec.upto Rows.readReachesSpec).bare.plain.varTypes Tryz.prog ++ Tryz.f4.resultTypes.toList).any (Tryz.prog.wideKeysFrom ·))) = true := by kernel_rfl
theorem j18 : ((Rows.OpenSpec.upto Rows.readReachesSpec).bare.vars.all (Tryz.prog.varReadable ·)) = true := by kernel_rfl
theorem j19 : (Tryz.f4.resultTypes.all (fun t => Tryz.prog.readableRec t && decide (t < Tryz.prog.types.size))) = true := by kernel_rfl
theorem j20 : ((Rows.readReachesUptoRow.ifacesOut == Tryz.f4.resultTypes.toList.any (Tryz.prog.ifacesRec ·))) = true := by kernel_rfl
theorem j21 : ((Rows.readReachesUptoRow.loopsOut == Tryz.f4.resultTypes.toList.any (Tryz.prog.loopsFrom ·))) = true := by kernel_rfl
theorem j22 : ((Rows.readReachesUptoRow.plainKeys == Tryz.prog.plainKeys)) = true := by kernel_rfl
theorem j23 : (Rows.readReachesUptoRow.shortTexts.isNone) = true := by kernel_rfl
theorem j24 : (Tryz.prog.stopsHeard) = true := by kernel_rfl
theorem j25 : (Tryz.prog.mayEnter) = true := by kernel_rfl
theorem j26 : ((Rows.readReachesUptoRow.lifted == Tryz.prog.liftsFinal)) = true := by kernel_rfl
theorem j27 : ((Tryz.prog.make == some Rows.readReachesUptoRow.make)) = true := by kernel_rfl
theorem j28 : ((Rows.readReachesUptoRow.kinds == (if Rows.readReachesUptoRow.domain.isEmpty then [] else Tryz.f4.params.toList.map fun t => match Tryz.prog.underlying t with | some (.int k) => some k | _ => none))) = true := by kernel_rfl
theorem j29 : ((Rows.readReachesUptoRow.pinned == Rows.readReachesUptoRow.pinnedBy)) = true := by kernel_rfl
theorem j30 : ((Rows.readReachesUptoRow.veiled == (Tryz.f4.params.toList ++ (Rows.OpenSpec.upto Rows.readReachesSpec).bare.plain.varTypes Tryz.prog ++ Tryz.f4.resultTypes.toList).any (Tryz.prog.veiledRec ·))) = true := by kernel_rfl
theorem j31 : (Rows.readReachesUptoRow.veiledFits Tryz.prog Tryz.f4.params.toList (Tryz.f4.params.toList ++ (Rows.OpenSpec.upto Rows.readReachesSpec).bare.plain.varTypes Tryz.prog ++ Tryz.f4.resultTypes.toList)) = true := by kernel_rfl
theorem closed : joinedFacts Tryz.prog 4 Tryz.f4 (Rows.OpenSpec.upto Rows.readReachesSpec).bare Rows.readReachesUptoRow = true := by
  unfold joinedFacts
  exact both (both (both (both (both (both (both (both (both (both (both (both (both (both (both (both (both (both (both (both (both (both (both (both (both (both (both (both (both (both (both (j0) laid) rowed) j3) j4) j5) j6) j7) j8) k1) k2) k3) k4) j13) j14) j15) j16) j17) j18) j19) j20) j21) j22) j23) j24) j25) j26) j27) j28) j29) j30) j31
theorem fnamed : Tryz.prog.funcNamed Rows.readReachesUptoRow.func = some 4 := by kernel_rfl

theorem proved : Rows.ReadReachesUptoSaid :=
  OpenClaim.holds_of_cond 4 Tryz.f4 rfl rfl rfl rfl rfl rfl rfl ⟨rfl, rfl, rfl, rfl, rfl⟩ rfl rfl rfl rfl rfl fnamed Tryz.func4 closed (by unfold Func.isInstance; first | exact ⟨rfl, rfl⟩ | kernel_rfl | exact (of_decide_eq_true (by kernel_rfl))) (by unfold Func.isWrapper; first | (rw [if_pos (by decide +kernel)]; kernel_rfl) | (rw [if_neg (by decide +kernel)]; exact ⟨rfl, rfl⟩))
    (fun os started H enc _ F => lifted os started H enc F)
end Go.Proofs.YtmkmflcemegikaaGreat.readReaches
