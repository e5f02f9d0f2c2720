/- It is proved that SpellRespelt answers true for all plain arguments, does not panic, and leaves its arguments alone. The condition of its second statement: the arguments hold together at most 1048576 values and letters. -/
import Derived.Test.YtbmcnieifibckaaGreatN41
import Derived.Test.YtbmcnieifibckaaGreatN24
import Derived.Test.YtbmcnieifibckaaGreatN8
namespace Go.Proofs.YtbmcnieifibckaaGreat.spellRespelt
open Go Go.Abs Go.Abs.Wall Go.ChangeShapes Go.WideShapes Go.ChangeAt Go.RowKit Go.Proofs.YtbmcnieifibckaaGreat.Br
set_option maxRecDepth 100000
theorem own : ownKnob Tryz.prog.godebug = none := by kernel_rfl
theorem laid : laidOutB Tryz.prog = true := by kernel_rfl
theorem rowed : mapsRowed Tryz.prog = true := by kernel_rfl
theorem kids : Kids Tryz.prog (· < Tryz.prog.types.size) := kids_rows laid rowed
theorem full : ∀ {t e : TypeId}, t < Tryz.prog.types.size → Tryz.prog.underlying t = some (.slice e) → 0 < Tryz.prog.cellsOf e := fun {t e} => slices_full_of Tryz.prog (by kernel_rfl) t e

theorem law (xs : List AV) (h : xJ Tryz.prog 1048576 Tryz.f13.params.toList xs) : ae Tryz.prog 13 xs [] (.bool true) := by
  obtain ⟨a, b, c, rfl, h1, h2, h3⟩ := UW rfl h
  obtain ⟨H, rfl, hf⟩ := MW h1
  obtain ⟨B, rfl, hB, _⟩ := Spl.QR h2
  obtain ⟨l, rfl, hl, _⟩ := S5 h3
  exact Spl.D9 H B l hf hB hl

theorem lifted (os : Os) (started : os.Started) (H : Type) (enc : TypeId × Value → H) (F : Stop.Interp) :
    ReturnsInHanded {} Tryz.checked os 13 .any ((Rows.OpenSpec.upto Rows.spellRespeltSpec).pre6 enc Tryz.prog Tryz.f13 Rows.spellRespeltUptoRow.domain false) (((Rows.OpenSpec.upto Rows.spellRespeltSpec).at F).post enc Tryz.prog Tryz.f13 false true false false) := by
  refine returnsInHanded_of_cond (C := Tryz.checked) (s := Rows.OpenSpec.upto Rows.spellRespeltSpec) (k := Rows.uptoSmall) rfl own started (by kernel_rfl) Tryz.func13
    (OpenSpec.witness (enc := enc) (C := Tryz.checked) (s := Rows.OpenSpec.upto Rows.spellRespeltSpec) (k := Rows.uptoSmall) rfl false ⟨#[], #[.agg #[.int .i64 0, .slice none 0 0, .slice none 0 0, .slice none 0 0, .slice none 0 0, .int .i64 0, .int .i64 0, .int .i64 0, .int .i64 0, .int .i64 0, .int .i64 0], .agg #[.slice none 0 0, .int .i64 0, .int .i64 0], .slice none 0 0], []⟩ 8 (by kernel_rfl) (by kernel_rfl) (by kernel_rfl)
      (x := ([.agg [.agg [.lit (.int .i64 0), .nil], .agg [.nil, .nil, .nil], .agg [.lit (.int .i64 0), .lit (.int .i64 0), .lit (.int .i64 0), .lit (.int .i64 0), .lit (.int .i64 0)], .lit (.int .i64 0)], .agg [.nil, .lit (.int .i64 0), .lit (.int .i64 0)], .nil], [], [])) (by kernel_rfl) rfl (by kernel_rfl)) ?_
  intro W base args ds gs before hval hW _ hk _
  exact HA (m := 8) (tb := 4) (s := Rows.spellRespeltSpec) kids full rfl (by
    intro ds hd
    match ds, hd with
    | [a, b, c], _ => rfl) rfl rfl (by decide +kernel) ⟨_, _, rfl, rfl, rfl⟩ law hval hW hk

theorem k1 : (Rows.spellRespeltUptoRow.inPlace == Tryz.prog.inPlace 13) = true := by kernel_rfl
theorem k2 : (Rows.spellRespeltUptoRow.unfollowed == Tryz.prog.unfollowed 13) = true := by kernel_rfl
theorem k3 : (Rows.spellRespeltUptoRow.recurses == Tryz.prog.recurses 13) = true := by kernel_rfl
theorem k4 : (Rows.spellRespeltUptoRow.named == Tryz.prog.varsNamed 13) = true := by kernel_rfl
theorem both {a b : Bool} (ha : a = true) (hb : b = true) : (a && b) = true := by rw [ha, hb]; rfl
theorem j0 : (Rows.spellRespeltUptoRow.wf (OpenSpec.ofChange (Rows.OpenSpec.upto Rows.spellRespeltSpec).bare)) = true := by kernel_rfl
theorem j3 : (Tryz.f13.params.all (Tryz.prog.readableRec ·)) = true := by kernel_rfl
theorem j4 : (namedTie Tryz.prog Rows.spellRespeltUptoRow.named (Rows.OpenSpec.upto Rows.spellRespeltSpec).bare.vars) = true := by kernel_rfl
theorem j5 : ((Rows.spellRespeltUptoRow.stops == [])) = true := by kernel_rfl
theorem j6 : ((Tryz.prog.stops == [])) = true := by kernel_rfl
theorem j7 : ((Rows.spellRespeltUptoRow.knobs == [])) = true := by kernel_rfl
theorem j8 : ((Tryz.prog.stopKnobs == [])) = true := by kernel_rfl
theorem j13 : ((Rows.spellRespeltUptoRow.maps == (Tryz.f13.params.toList ++ (Rows.OpenSpec.upto Rows.spellRespeltSpec).bare.plain.varTypes Tryz.prog).any (Tryz.prog.mapsRec ·))) = true := by kernel_rfl
theorem j14 : ((Rows.spellRespeltUptoRow.ifaces == (Tryz.f13.params.toList ++ (Rows.OpenSpec.upto Rows.spellRespeltSpec).bare.plain.varTypes Tryz.prog).any (Tryz.prog.ifacesRec ·))) = true := by kernel_rfl
theorem j15 : ((Rows.spellRespeltUptoRow.mapsOut == Tryz.prog.mapsAmong Tryz.f13.resultTypes.toList)) = true := by kernel_rfl
theorem j16 : ((Rows.spellRespeltUptoRow.loops == (Tryz.f13.params.toList ++ (Rows.OpenSpec.upto Rows.spellRespeltSpec).bare.plain.varTypes Tryz.prog).any (Tryz.prog.loopsFrom ·))) = true := by kernel_rfl
theorem j17 : ((Rows.spellRespeltUptoRow.wideKeys == (Tryz.f13.params.toList ++ (Rows.OpenSpec.upto Rows.spellRespeltSpec).bare.plain.varTypes Tryz.prog ++ Tryz.f13.resultTypes.toList).any (Tryz.prog.wideKeysFrom ·))) = true := by kernel_rfl
theorem j18 : ((Rows.OpenSpec.upto Rows.spellRespeltSpec).bare.vars.all (Tryz.prog.varReadable ·)) = true := by kernel_rfl
theorem j19 : (Tryz.f13.resultTypes.all (fun t => Tryz.prog.readableRec t && decide (t < Tryz.prog.types.size))) = true := by kernel_rfl
theorem j20 : ((Rows.spellRespeltUptoRow.ifacesOut == Tryz.f13.resultTypes.toList.any (Tryz.prog.ifacesRec ·))) = true := by kernel_rfl
theorem j21 : ((Rows.spellRespeltUptoRow.loopsOut == Tryz.f13.resultTypes.toList.any (Tryz.prog.loopsFrom ·))) = true := by kernel_rfl
theorem j22 : ((Rows.spellRespeltUptoRow.plainKeys == Tryz.prog.plainKeys)) = true := by kernel_rfl
theorem j23 : (Rows.spellRespeltUptoRow.shortTexts.isNone) = true := by kernel_rfl
theorem j24 : (Tryz.prog.stopsHeard) = true := by kernel_rfl
theorem j25 : (Tryz.prog.mayEnter) = true := by kernel_rfl
theorem j26 : ((Rows.spellRespeltUptoRow.lifted == Tryz.prog.liftsFinal)) = true := by kernel_rfl
theorem j27 : ((Tryz.prog.make == some Rows.spellRespeltUptoRow.make)) = true := by kernel_rfl
theorem j28 : ((Rows.spellRespeltUptoRow.kinds == (if Rows.spellRespeltUptoRow.domain.isEmpty then [] else Tryz.f13.params.toList.map fun t => match Tryz.prog.underlying t with | some (.int k) => some k | _ => none))) = true := by kernel_rfl
theorem j29 : ((Rows.spellRespeltUptoRow.pinned == Rows.spellRespeltUptoRow.pinnedBy)) = true := by kernel_rfl
theorem j30 : ((Rows.spellRespeltUptoRow.veiled == (Tryz.f13.params.toList ++ (Rows.OpenSpec.upto Rows.spellRespeltSpec).bare.plain.varTypes Tryz.prog ++ Tryz.f13.resultTypes.toList).any (Tryz.prog.veiledRec ·))) = true := by kernel_rfl
theorem j31 : (Rows.spellRespeltUptoRow.veiledFits Tryz.prog Tryz.f13.params.toList (Tryz.f13.params.toList ++ (Rows.OpenSpec.upto Rows.spellRespeltSpec).bare.plain.varTypes Tryz.prog ++ Tryz.f13.resultTypes.toList)) = true := by kernel_rfl
theorem closed : joinedFacts Tryz.prog 13 Tryz.f13 (Rows.OpenSpec.upto Rows.spellRespeltSpec).bare Rows.spellRespeltUptoRow = true := by
  unfold joinedFacts
  exact both (both (both (both (both (both (both (both (both (both (both (both (both (both (both (both (both (both (both (both (both (both (both (both (both (both (both (both (both (both (both (j0) laid) rowed) j3) j4) j5) j6) j7) j8) k1) k2) k3) k4) j13) j14) j15) j16) j17) j18) j19) j20) j21) j22) j23) j24) j25) j26) j27) j28) j29) j30) j31
theorem fnamed : Tryz.prog.funcNamed Rows.spellRespeltUptoRow.func = some 13 := by kernel_rfl

theorem proved : Rows.SpellRespeltUptoSaid :=
  OpenClaim.holds_of_cond 13 Tryz.f13 rfl rfl rfl rfl rfl rfl rfl ⟨rfl, rfl, rfl, rfl, rfl⟩ rfl rfl rfl rfl rfl fnamed Tryz.func13 closed (by unfold Func.isInstance; first | exact ⟨rfl, rfl⟩ | kernel_rfl | exact (of_decide_eq_true (by kernel_rfl))) (by unfold Func.isWrapper; first | (rw [if_pos (by decide +kernel)]; kernel_rfl) | (rw [if_neg (by decide +kernel)]; exact ⟨rfl, rfl⟩))
    (fun os started H enc _ F => lifted os started H enc F)
end Go.Proofs.YtbmcnieifibckaaGreat.spellRespelt
