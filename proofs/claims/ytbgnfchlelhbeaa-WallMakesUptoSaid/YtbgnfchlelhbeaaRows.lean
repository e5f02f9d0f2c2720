/-
  No cell of these rows narrows 'for every input' (looked for: loops, veiled, ifaces, maps, wideKeys, modest, calm, conditions, laid).
  DERIVED. THE GIVEN ROWS OF THIS SEAT. 15 by the template 'for every input the law returns true; each argument reads behind the call as it read before'; 0 by the template 'total and deterministic' (their statements: YtbgnfchlelhbeaaTotals.lean).
  GIVEN WITH THE SEED: the statements are not yours to turn. If you find one false, say at which input.
  Laid BY PROGRAM, IN A SANDBOX (cutbox-rows.mjs): the forced cells as the released guide's own fill.sh prints them over the translation 6b8dd9f5d35e9c5b… (all of the seat's roots in one cut). By AI agents, Wed Nov 11 2026. No macro, syntax, notation, axiom, sorry.
-/
import Derived.Test.YtbgnfchlelhbeaaChecked
import GoSem.Claim
import GoSem.ClaimJoined
import GoSem.ClaimMapViews
import Derived.JoinedTies
import Derived.KernelRfl
namespace Go.Proofs.Ytbgnfchlelhbeaa
/- THE CELL 'sum', in the pinned program and in every row, IS THE sha256 OF THE DUMP (.gsa) THAT YtbgnfchlelhbeaaProg.lean LOADS. Nothing in Lean hashes anything: it is a label: what it is worth is what the hold of that sum in a sandbox is worth. -/
noncomputable def Try.pinned : Pinned := { name := "ytbgnfchlelhbeaa", sum := "6b8dd9f5d35e9c5b1ede9acee3d6a0e6f1354e12d33740bc49d46e162af3f005", checked := Try.checked }
namespace Rows
def none {H : Type} : Left H := { results := [], args := [] }

/-- 'ostraconlaw08.WallEvidence': WHATEVER THE INPUT: true; the input reads as it did. -/
def wallEvidenceSpec : ChangeSpec := { name := "wallEvidence", fn := fun _ => fun
  | [d1, d2, d3] => { results := [.lit (.bool true)], args := [d1, d2, d3] }
  | _ => none }
def wallEvidenceRow : OpenClaim := { program := "ytbgnfchlelhbeaa", sum := "6b8dd9f5d35e9c5b1ede9acee3d6a0e6f1354e12d33740bc49d46e162af3f005", func := "ostracon/ostraconlaw08.WallEvidence", spec := "wallEvidence", unfollowed := true, recurses := true, plainKeys := false, apart := false }
def WallEvidenceSaid : Prop := wallEvidenceRow.holds Try.pinned (OpenSpec.ofChange wallEvidenceSpec)

/-- ITS FALSE NEIGHBOUR: 'it returns false'. Refute it at one input. -/
def wallEvidenceWrong : ChangeSpec := { name := "wallEvidence", fn := fun _ => fun
  | [d1, d2, d3] => { results := [.lit (.bool false)], args := [d1, d2, d3] }
  | _ => none }
def WallEvidenceWrongFalsely : Prop := wallEvidenceRow.holds Try.pinned (OpenSpec.ofChange wallEvidenceWrong)

/-- 'ostraconlaw08.WallCounts': WHATEVER THE INPUT: true; the input reads as it did. -/
def wallCountsSpec : ChangeSpec := { name := "wallCounts", fn := fun _ => fun
  | [d1, d2] => { results := [.lit (.bool true)], args := [d1, d2] }
  | _ => none }
def wallCountsRow : OpenClaim := { program := "ytbgnfchlelhbeaa", sum := "6b8dd9f5d35e9c5b1ede9acee3d6a0e6f1354e12d33740bc49d46e162af3f005", func := "ostracon/ostraconlaw08.WallCounts", spec := "wallCounts", unfollowed := true, recurses := true, plainKeys := false, apart := false }
def WallCountsSaid : Prop := wallCountsRow.holds Try.pinned (OpenSpec.ofChange wallCountsSpec)

/-- ITS FALSE NEIGHBOUR: 'it returns false'. Refute it at one input. -/
def wallCountsWrong : ChangeSpec := { name := "wallCounts", fn := fun _ => fun
  | [d1, d2] => { results := [.lit (.bool false)], args := [d1, d2] }
  | _ => none }
def WallCountsWrongFalsely : Prop := wallCountsRow.holds Try.pinned (OpenSpec.ofChange wallCountsWrong)

/-- 'ostraconlaw08.WallLists': WHATEVER THE INPUT: true; the input reads as it did. -/
def wallListsSpec : ChangeSpec := { name := "wallLists", fn := fun _ => fun
  | [d1, d2, d3] => { results := [.lit (.bool true)], args := [d1, d2, d3] }
  | _ => none }
def wallListsRow : OpenClaim := { program := "ytbgnfchlelhbeaa", sum := "6b8dd9f5d35e9c5b1ede9acee3d6a0e6f1354e12d33740bc49d46e162af3f005", func := "ostracon/ostraconlaw08.WallLists", spec := "wallLists", unfollowed := true, recurses := true, plainKeys := false, apart := false }
def WallListsSaid : Prop := wallListsRow.holds Try.pinned (OpenSpec.ofChange wallListsSpec)

/-- ITS FALSE NEIGHBOUR: 'it returns false'. Refute it at one input. -/
def wallListsWrong : ChangeSpec := { name := "wallLists", fn := fun _ => fun
  | [d1, d2, d3] => { results := [.lit (.bool false)], args := [d1, d2, d3] }
  | _ => none }
def WallListsWrongFalsely : Prop := wallListsRow.holds Try.pinned (OpenSpec.ofChange wallListsWrong)

/-- 'ostraconlaw08.WallAgrees': WHATEVER THE INPUT: true; the input reads as it did. -/
def wallAgreesSpec : ChangeSpec := { name := "wallAgrees", fn := fun _ => fun
  | [d1, d2, d3] => { results := [.lit (.bool true)], args := [d1, d2, d3] }
  | _ => none }
def wallAgreesRow : OpenClaim := { program := "ytbgnfchlelhbeaa", sum := "6b8dd9f5d35e9c5b1ede9acee3d6a0e6f1354e12d33740bc49d46e162af3f005", func := "ostracon/ostraconlaw08.WallAgrees", spec := "wallAgrees", unfollowed := true, recurses := true, plainKeys := false, apart := false }
def WallAgreesSaid : Prop := wallAgreesRow.holds Try.pinned (OpenSpec.ofChange wallAgreesSpec)

/-- ITS FALSE NEIGHBOUR: 'it returns false'. Refute it at one input. -/
def wallAgreesWrong : ChangeSpec := { name := "wallAgrees", fn := fun _ => fun
  | [d1, d2, d3] => { results := [.lit (.bool false)], args := [d1, d2, d3] }
  | _ => none }
def WallAgreesWrongFalsely : Prop := wallAgreesRow.holds Try.pinned (OpenSpec.ofChange wallAgreesWrong)

/-- 'ostraconlaw08.WallChanges': WHATEVER THE INPUT: true; the input reads as it did. -/
def wallChangesSpec : ChangeSpec := { name := "wallChanges", fn := fun _ => fun
  | [d1, d2, d3] => { results := [.lit (.bool true)], args := [d1, d2, d3] }
  | _ => none }
def wallChangesRow : OpenClaim := { program := "ytbgnfchlelhbeaa", sum := "6b8dd9f5d35e9c5b1ede9acee3d6a0e6f1354e12d33740bc49d46e162af3f005", func := "ostracon/ostraconlaw08.WallChanges", spec := "wallChanges", unfollowed := true, recurses := true, plainKeys := false, apart := false }
def WallChangesSaid : Prop := wallChangesRow.holds Try.pinned (OpenSpec.ofChange wallChangesSpec)

/-- ITS FALSE NEIGHBOUR: 'it returns false'. Refute it at one input. -/
def wallChangesWrong : ChangeSpec := { name := "wallChanges", fn := fun _ => fun
  | [d1, d2, d3] => { results := [.lit (.bool false)], args := [d1, d2, d3] }
  | _ => none }
def WallChangesWrongFalsely : Prop := wallChangesRow.holds Try.pinned (OpenSpec.ofChange wallChangesWrong)

/-- 'ostraconlaw08.WallDistance': WHATEVER THE INPUT: true; the input reads as it did. -/
def wallDistanceSpec : ChangeSpec := { name := "wallDistance", fn := fun _ => fun
  | [d1, d2, d3] => { results := [.lit (.bool true)], args := [d1, d2, d3] }
  | _ => none }
def wallDistanceRow : OpenClaim := { program := "ytbgnfchlelhbeaa", sum := "6b8dd9f5d35e9c5b1ede9acee3d6a0e6f1354e12d33740bc49d46e162af3f005", func := "ostracon/ostraconlaw08.WallDistance", spec := "wallDistance", unfollowed := true, recurses := true, plainKeys := false, apart := false }
def WallDistanceSaid : Prop := wallDistanceRow.holds Try.pinned (OpenSpec.ofChange wallDistanceSpec)

/-- ITS FALSE NEIGHBOUR: 'it returns false'. Refute it at one input. -/
def wallDistanceWrong : ChangeSpec := { name := "wallDistance", fn := fun _ => fun
  | [d1, d2, d3] => { results := [.lit (.bool false)], args := [d1, d2, d3] }
  | _ => none }
def WallDistanceWrongFalsely : Prop := wallDistanceRow.holds Try.pinned (OpenSpec.ofChange wallDistanceWrong)

/-- 'ostraconlaw08.WallItself': WHATEVER THE INPUT: true; the input reads as it did. -/
def wallItselfSpec : ChangeSpec := { name := "wallItself", fn := fun _ => fun
  | [d1, d2, d3] => { results := [.lit (.bool true)], args := [d1, d2, d3] }
  | _ => none }
def wallItselfRow : OpenClaim := { program := "ytbgnfchlelhbeaa", sum := "6b8dd9f5d35e9c5b1ede9acee3d6a0e6f1354e12d33740bc49d46e162af3f005", func := "ostracon/ostraconlaw08.WallItself", spec := "wallItself", unfollowed := true, recurses := true, plainKeys := false, apart := false }
def WallItselfSaid : Prop := wallItselfRow.holds Try.pinned (OpenSpec.ofChange wallItselfSpec)

/-- ITS FALSE NEIGHBOUR: 'it returns false'. Refute it at one input. -/
def wallItselfWrong : ChangeSpec := { name := "wallItself", fn := fun _ => fun
  | [d1, d2, d3] => { results := [.lit (.bool false)], args := [d1, d2, d3] }
  | _ => none }
def WallItselfWrongFalsely : Prop := wallItselfRow.holds Try.pinned (OpenSpec.ofChange wallItselfWrong)

/-- 'ostraconlaw08.WallWider': WHATEVER THE INPUT: true; the input reads as it did. -/
def wallWiderSpec : ChangeSpec := { name := "wallWider", fn := fun _ => fun
  | [d1, d2, d3] => { results := [.lit (.bool true)], args := [d1, d2, d3] }
  | _ => none }
def wallWiderRow : OpenClaim := { program := "ytbgnfchlelhbeaa", sum := "6b8dd9f5d35e9c5b1ede9acee3d6a0e6f1354e12d33740bc49d46e162af3f005", func := "ostracon/ostraconlaw08.WallWider", spec := "wallWider", unfollowed := true, recurses := true, plainKeys := false, apart := false }
def WallWiderSaid : Prop := wallWiderRow.holds Try.pinned (OpenSpec.ofChange wallWiderSpec)

/-- ITS FALSE NEIGHBOUR: 'it returns false'. Refute it at one input. -/
def wallWiderWrong : ChangeSpec := { name := "wallWider", fn := fun _ => fun
  | [d1, d2, d3] => { results := [.lit (.bool false)], args := [d1, d2, d3] }
  | _ => none }
def WallWiderWrongFalsely : Prop := wallWiderRow.holds Try.pinned (OpenSpec.ofChange wallWiderWrong)

/-- 'ostraconlaw08.WallChooses': WHATEVER THE INPUT: true; the input reads as it did. -/
def wallChoosesSpec : ChangeSpec := { name := "wallChooses", fn := fun _ => fun
  | [d1, d2, d3] => { results := [.lit (.bool true)], args := [d1, d2, d3] }
  | _ => none }
def wallChoosesRow : OpenClaim := { program := "ytbgnfchlelhbeaa", sum := "6b8dd9f5d35e9c5b1ede9acee3d6a0e6f1354e12d33740bc49d46e162af3f005", func := "ostracon/ostraconlaw08.WallChooses", spec := "wallChooses", unfollowed := true, recurses := true, plainKeys := false, apart := false }
def WallChoosesSaid : Prop := wallChoosesRow.holds Try.pinned (OpenSpec.ofChange wallChoosesSpec)

/-- ITS FALSE NEIGHBOUR: 'it returns false'. Refute it at one input. -/
def wallChoosesWrong : ChangeSpec := { name := "wallChooses", fn := fun _ => fun
  | [d1, d2, d3] => { results := [.lit (.bool false)], args := [d1, d2, d3] }
  | _ => none }
def WallChoosesWrongFalsely : Prop := wallChoosesRow.holds Try.pinned (OpenSpec.ofChange wallChoosesWrong)

/-- 'ostraconlaw08.WallMeets': WHATEVER THE INPUT: true; the input reads as it did. -/
def wallMeetsSpec : ChangeSpec := { name := "wallMeets", fn := fun _ => fun
  | [d1, d2, d3] => { results := [.lit (.bool true)], args := [d1, d2, d3] }
  | _ => none }
def wallMeetsRow : OpenClaim := { program := "ytbgnfchlelhbeaa", sum := "6b8dd9f5d35e9c5b1ede9acee3d6a0e6f1354e12d33740bc49d46e162af3f005", func := "ostracon/ostraconlaw08.WallMeets", spec := "wallMeets", unfollowed := true, recurses := true, plainKeys := false, apart := false }
def WallMeetsSaid : Prop := wallMeetsRow.holds Try.pinned (OpenSpec.ofChange wallMeetsSpec)

/-- ITS FALSE NEIGHBOUR: 'it returns false'. Refute it at one input. -/
def wallMeetsWrong : ChangeSpec := { name := "wallMeets", fn := fun _ => fun
  | [d1, d2, d3] => { results := [.lit (.bool false)], args := [d1, d2, d3] }
  | _ => none }
def WallMeetsWrongFalsely : Prop := wallMeetsRow.holds Try.pinned (OpenSpec.ofChange wallMeetsWrong)

/-- 'ostraconlaw08.WallKnows': WHATEVER THE INPUT: true; the input reads as it did. -/
def wallKnowsSpec : ChangeSpec := { name := "wallKnows", fn := fun _ => fun
  | [d1, d2, d3] => { results := [.lit (.bool true)], args := [d1, d2, d3] }
  | _ => none }
def wallKnowsRow : OpenClaim := { program := "ytbgnfchlelhbeaa", sum := "6b8dd9f5d35e9c5b1ede9acee3d6a0e6f1354e12d33740bc49d46e162af3f005", func := "ostracon/ostraconlaw08.WallKnows", spec := "wallKnows", unfollowed := true, recurses := true, plainKeys := false, apart := false }
def WallKnowsSaid : Prop := wallKnowsRow.holds Try.pinned (OpenSpec.ofChange wallKnowsSpec)

/-- ITS FALSE NEIGHBOUR: 'it returns false'. Refute it at one input. -/
def wallKnowsWrong : ChangeSpec := { name := "wallKnows", fn := fun _ => fun
  | [d1, d2, d3] => { results := [.lit (.bool false)], args := [d1, d2, d3] }
  | _ => none }
def WallKnowsWrongFalsely : Prop := wallKnowsRow.holds Try.pinned (OpenSpec.ofChange wallKnowsWrong)

/-- 'ostraconlaw08.WallVerifies': WHATEVER THE INPUT: true; the input reads as it did. -/
def wallVerifiesSpec : ChangeSpec := { name := "wallVerifies", fn := fun _ => fun
  | [d1, d2, d3] => { results := [.lit (.bool true)], args := [d1, d2, d3] }
  | _ => none }
def wallVerifiesRow : OpenClaim := { program := "ytbgnfchlelhbeaa", sum := "6b8dd9f5d35e9c5b1ede9acee3d6a0e6f1354e12d33740bc49d46e162af3f005", func := "ostracon/ostraconlaw08.WallVerifies", spec := "wallVerifies", unfollowed := true, recurses := true, plainKeys := false, apart := false }
def WallVerifiesSaid : Prop := wallVerifiesRow.holds Try.pinned (OpenSpec.ofChange wallVerifiesSpec)

/-- ITS FALSE NEIGHBOUR: 'it returns false'. Refute it at one input. -/
def wallVerifiesWrong : ChangeSpec := { name := "wallVerifies", fn := fun _ => fun
  | [d1, d2, d3] => { results := [.lit (.bool false)], args := [d1, d2, d3] }
  | _ => none }
def WallVerifiesWrongFalsely : Prop := wallVerifiesRow.holds Try.pinned (OpenSpec.ofChange wallVerifiesWrong)

/-- 'ostraconlaw08.WallListed': WHATEVER THE INPUT: true; the input reads as it did. -/
def wallListedSpec : ChangeSpec := { name := "wallListed", fn := fun _ => fun
  | [d1, d2, d3] => { results := [.lit (.bool true)], args := [d1, d2, d3] }
  | _ => none }
def wallListedRow : OpenClaim := { program := "ytbgnfchlelhbeaa", sum := "6b8dd9f5d35e9c5b1ede9acee3d6a0e6f1354e12d33740bc49d46e162af3f005", func := "ostracon/ostraconlaw08.WallListed", spec := "wallListed", unfollowed := true, recurses := true, plainKeys := false, apart := false }
def WallListedSaid : Prop := wallListedRow.holds Try.pinned (OpenSpec.ofChange wallListedSpec)

/-- ITS FALSE NEIGHBOUR: 'it returns false'. Refute it at one input. -/
def wallListedWrong : ChangeSpec := { name := "wallListed", fn := fun _ => fun
  | [d1, d2, d3] => { results := [.lit (.bool false)], args := [d1, d2, d3] }
  | _ => none }
def WallListedWrongFalsely : Prop := wallListedRow.holds Try.pinned (OpenSpec.ofChange wallListedWrong)

/-- 'ostraconlaw08.WallBoth': WHATEVER THE INPUT: true; the input reads as it did. -/
def wallBothSpec : ChangeSpec := { name := "wallBoth", fn := fun _ => fun
  | [d1, d2, d3] => { results := [.lit (.bool true)], args := [d1, d2, d3] }
  | _ => none }
def wallBothRow : OpenClaim := { program := "ytbgnfchlelhbeaa", sum := "6b8dd9f5d35e9c5b1ede9acee3d6a0e6f1354e12d33740bc49d46e162af3f005", func := "ostracon/ostraconlaw08.WallBoth", spec := "wallBoth", unfollowed := true, recurses := true, plainKeys := false, apart := false }
def WallBothSaid : Prop := wallBothRow.holds Try.pinned (OpenSpec.ofChange wallBothSpec)

/-- ITS FALSE NEIGHBOUR: 'it returns false'. Refute it at one input. -/
def wallBothWrong : ChangeSpec := { name := "wallBoth", fn := fun _ => fun
  | [d1, d2, d3] => { results := [.lit (.bool false)], args := [d1, d2, d3] }
  | _ => none }
def WallBothWrongFalsely : Prop := wallBothRow.holds Try.pinned (OpenSpec.ofChange wallBothWrong)

/-- 'ostraconlaw08.WallMakes': WHATEVER THE INPUT: true; the input reads as it did. -/
def wallMakesSpec : ChangeSpec := { name := "wallMakes", fn := fun _ => fun
  | [d1, d2, d3] => { results := [.lit (.bool true)], args := [d1, d2, d3] }
  | _ => none }
def wallMakesRow : OpenClaim := { program := "ytbgnfchlelhbeaa", sum := "6b8dd9f5d35e9c5b1ede9acee3d6a0e6f1354e12d33740bc49d46e162af3f005", func := "ostracon/ostraconlaw08.WallMakes", spec := "wallMakes", unfollowed := true, recurses := true, plainKeys := false, apart := false }
def WallMakesSaid : Prop := wallMakesRow.holds Try.pinned (OpenSpec.ofChange wallMakesSpec)

/-- ITS FALSE NEIGHBOUR: 'it returns false'. Refute it at one input. -/
def wallMakesWrong : ChangeSpec := { name := "wallMakes", fn := fun _ => fun
  | [d1, d2, d3] => { results := [.lit (.bool false)], args := [d1, d2, d3] }
  | _ => none }
def WallMakesWrongFalsely : Prop := wallMakesRow.holds Try.pinned (OpenSpec.ofChange wallMakesWrong)

/- THE SECOND FORM. 'bulk': how many values and letters a reading holds, each counted each time it is reached (what is shared counts as often as it is met; a slice's spare places count too). A statement '..UptoSaid' is the law's where the arguments, and the package variables that the reading takes, are together of bulk at most 1048576: NARROWER than '..Said'. Prove '..Said' where nothing that the law and all that it calls make is longer than what came in: it says more and counts as full. Else prove '..UptoSaid'. A law counts once. -/
mutual
def uptoBulk {H : Type} : DataW H → Nat
  | .lit (.string bytes) => bytes.length + 1
  | .lit _ => 1
  | .nil => 1
  | .ptr d => uptoBulk d + 1
  | .slice elems spare => uptoBulkAll elems + uptoBulkAll spare + 1
  | .agg parts => uptoBulkAll parts + 1
  | .iface _ d => uptoBulk d + 1
  | .map entries => uptoBulkEntries entries + 1
  | .held _ => 1
def uptoBulkAll {H : Type} : List (DataW H) → Nat
  | [] => 0
  | d :: r => uptoBulk d + uptoBulkAll r
def uptoBulkEntries {H : Type} : List (Lit × DataW H) → Nat
  | [] => 0
  | x :: r => uptoBulkEntry x + uptoBulkEntries r
def uptoBulkEntry {H : Type} : Lit × DataW H → Nat
  | (.string bytes, d) => bytes.length + uptoBulk d + 1
  | (_, d) => uptoBulk d + 1
 end
def uptoSmall : (H : Type) → List (DataW H) → Bool := fun _ ds => decide (uptoBulkAll ds ≤ 1048576)
def OpenSpec.upto (s : _root_.Go.ChangeSpec) : _root_.Go.OpenSpec := { _root_.Go.OpenSpec.ofChange s with cond := some uptoSmall }

/-- 'ostraconlaw08.WallEvidence', WHERE WHAT IT READS IS OF BULK AT MOST 1048576: true; the input reads as it did. -/
def wallEvidenceUptoRow : OpenClaim := { program := "ytbgnfchlelhbeaa", sum := "6b8dd9f5d35e9c5b1ede9acee3d6a0e6f1354e12d33740bc49d46e162af3f005", func := "ostracon/ostraconlaw08.WallEvidence", spec := "wallEvidence", unfollowed := true, recurses := true, plainKeys := false, apart := false, narrowed := true }
def WallEvidenceUptoSaid : Prop := wallEvidenceUptoRow.holds Try.pinned (OpenSpec.upto wallEvidenceSpec)

/-- 'ostraconlaw08.WallCounts', WHERE WHAT IT READS IS OF BULK AT MOST 1048576: true; the input reads as it did. -/
def wallCountsUptoRow : OpenClaim := { program := "ytbgnfchlelhbeaa", sum := "6b8dd9f5d35e9c5b1ede9acee3d6a0e6f1354e12d33740bc49d46e162af3f005", func := "ostracon/ostraconlaw08.WallCounts", spec := "wallCounts", unfollowed := true, recurses := true, plainKeys := false, apart := false, narrowed := true }
def WallCountsUptoSaid : Prop := wallCountsUptoRow.holds Try.pinned (OpenSpec.upto wallCountsSpec)

/-- 'ostraconlaw08.WallLists', WHERE WHAT IT READS IS OF BULK AT MOST 1048576: true; the input reads as it did. -/
def wallListsUptoRow : OpenClaim := { program := "ytbgnfchlelhbeaa", sum := "6b8dd9f5d35e9c5b1ede9acee3d6a0e6f1354e12d33740bc49d46e162af3f005", func := "ostracon/ostraconlaw08.WallLists", spec := "wallLists", unfollowed := true, recurses := true, plainKeys := false, apart := false, narrowed := true }
def WallListsUptoSaid : Prop := wallListsUptoRow.holds Try.pinned (OpenSpec.upto wallListsSpec)

/-- 'ostraconlaw08.WallAgrees', WHERE WHAT IT READS IS OF BULK AT MOST 1048576: true; the input reads as it did. -/
def wallAgreesUptoRow : OpenClaim := { program := "ytbgnfchlelhbeaa", sum := "6b8dd9f5d35e9c5b1ede9acee3d6a0e6f1354e12d33740bc49d46e162af3f005", func := "ostracon/ostraconlaw08.WallAgrees", spec := "wallAgrees", unfollowed := true, recurses := true, plainKeys := false, apart := false, narrowed := true }
def WallAgreesUptoSaid : Prop := wallAgreesUptoRow.holds Try.pinned (OpenSpec.upto wallAgreesSpec)

/-- 'ostraconlaw08.WallChanges', WHERE WHAT IT READS IS OF BULK AT MOST 1048576: true; the input reads as it did. -/
def wallChangesUptoRow : OpenClaim := { program := "ytbgnfchlelhbeaa", sum := "6b8dd9f5d35e9c5b1ede9acee3d6a0e6f1354e12d33740bc49d46e162af3f005", func := "ostracon/ostraconlaw08.WallChanges", spec := "wallChanges", unfollowed := true, recurses := true, plainKeys := false, apart := false, narrowed := true }
def WallChangesUptoSaid : Prop := wallChangesUptoRow.holds Try.pinned (OpenSpec.upto wallChangesSpec)

/-- 'ostraconlaw08.WallDistance', WHERE WHAT IT READS IS OF BULK AT MOST 1048576: true; the input reads as it did. -/
def wallDistanceUptoRow : OpenClaim := { program := "ytbgnfchlelhbeaa", sum := "6b8dd9f5d35e9c5b1ede9acee3d6a0e6f1354e12d33740bc49d46e162af3f005", func := "ostracon/ostraconlaw08.WallDistance", spec := "wallDistance", unfollowed := true, recurses := true, plainKeys := false, apart := false, narrowed := true }
def WallDistanceUptoSaid : Prop := wallDistanceUptoRow.holds Try.pinned (OpenSpec.upto wallDistanceSpec)

/-- 'ostraconlaw08.WallItself', WHERE WHAT IT READS IS OF BULK AT MOST 1048576: true; the input reads as it did. -/
def wallItselfUptoRow : OpenClaim := { program := "ytbgnfchlelhbeaa", sum := "6b8dd9f5d35e9c5b1ede9acee3d6a0e6f1354e12d33740bc49d46e162af3f005", func := "ostracon/ostraconlaw08.WallItself", spec := "wallItself", unfollowed := true, recurses := true, plainKeys := false, apart := false, narrowed := true }
def WallItselfUptoSaid : Prop := wallItselfUptoRow.holds Try.pinned (OpenSpec.upto wallItselfSpec)

/-- 'ostraconlaw08.WallWider', WHERE WHAT IT READS IS OF BULK AT MOST 1048576: true; the input reads as it did. -/
def wallWiderUptoRow : OpenClaim := { program := "ytbgnfchlelhbeaa", sum := "6b8dd9f5d35e9c5b1ede9acee3d6a0e6f1354e12d33740bc49d46e162af3f005", func := "ostracon/ostraconlaw08.WallWider", spec := "wallWider", unfollowed := true, recurses := true, plainKeys := false, apart := false, narrowed := true }
def WallWiderUptoSaid : Prop := wallWiderUptoRow.holds Try.pinned (OpenSpec.upto wallWiderSpec)

/-- 'ostraconlaw08.WallChooses', WHERE WHAT IT READS IS OF BULK AT MOST 1048576: true; the input reads as it did. -/
def wallChoosesUptoRow : OpenClaim := { program := "ytbgnfchlelhbeaa", sum := "6b8dd9f5d35e9c5b1ede9acee3d6a0e6f1354e12d33740bc49d46e162af3f005", func := "ostracon/ostraconlaw08.WallChooses", spec := "wallChooses", unfollowed := true, recurses := true, plainKeys := false, apart := false, narrowed := true }
def WallChoosesUptoSaid : Prop := wallChoosesUptoRow.holds Try.pinned (OpenSpec.upto wallChoosesSpec)

/-- 'ostraconlaw08.WallMeets', WHERE WHAT IT READS IS OF BULK AT MOST 1048576: true; the input reads as it did. -/
def wallMeetsUptoRow : OpenClaim := { program := "ytbgnfchlelhbeaa", sum := "6b8dd9f5d35e9c5b1ede9acee3d6a0e6f1354e12d33740bc49d46e162af3f005", func := "ostracon/ostraconlaw08.WallMeets", spec := "wallMeets", unfollowed := true, recurses := true, plainKeys := false, apart := false, narrowed := true }
def WallMeetsUptoSaid : Prop := wallMeetsUptoRow.holds Try.pinned (OpenSpec.upto wallMeetsSpec)

/-- 'ostraconlaw08.WallKnows', WHERE WHAT IT READS IS OF BULK AT MOST 1048576: true; the input reads as it did. -/
def wallKnowsUptoRow : OpenClaim := { program := "ytbgnfchlelhbeaa", sum := "6b8dd9f5d35e9c5b1ede9acee3d6a0e6f1354e12d33740bc49d46e162af3f005", func := "ostracon/ostraconlaw08.WallKnows", spec := "wallKnows", unfollowed := true, recurses := true, plainKeys := false, apart := false, narrowed := true }
def WallKnowsUptoSaid : Prop := wallKnowsUptoRow.holds Try.pinned (OpenSpec.upto wallKnowsSpec)

/-- 'ostraconlaw08.WallVerifies', WHERE WHAT IT READS IS OF BULK AT MOST 1048576: true; the input reads as it did. -/
def wallVerifiesUptoRow : OpenClaim := { program := "ytbgnfchlelhbeaa", sum := "6b8dd9f5d35e9c5b1ede9acee3d6a0e6f1354e12d33740bc49d46e162af3f005", func := "ostracon/ostraconlaw08.WallVerifies", spec := "wallVerifies", unfollowed := true, recurses := true, plainKeys := false, apart := false, narrowed := true }
def WallVerifiesUptoSaid : Prop := wallVerifiesUptoRow.holds Try.pinned (OpenSpec.upto wallVerifiesSpec)

/-- 'ostraconlaw08.WallListed', WHERE WHAT IT READS IS OF BULK AT MOST 1048576: true; the input reads as it did. -/
def wallListedUptoRow : OpenClaim := { program := "ytbgnfchlelhbeaa", sum := "6b8dd9f5d35e9c5b1ede9acee3d6a0e6f1354e12d33740bc49d46e162af3f005", func := "ostracon/ostraconlaw08.WallListed", spec := "wallListed", unfollowed := true, recurses := true, plainKeys := false, apart := false, narrowed := true }
def WallListedUptoSaid : Prop := wallListedUptoRow.holds Try.pinned (OpenSpec.upto wallListedSpec)

/-- 'ostraconlaw08.WallBoth', WHERE WHAT IT READS IS OF BULK AT MOST 1048576: true; the input reads as it did. -/
def wallBothUptoRow : OpenClaim := { program := "ytbgnfchlelhbeaa", sum := "6b8dd9f5d35e9c5b1ede9acee3d6a0e6f1354e12d33740bc49d46e162af3f005", func := "ostracon/ostraconlaw08.WallBoth", spec := "wallBoth", unfollowed := true, recurses := true, plainKeys := false, apart := false, narrowed := true }
def WallBothUptoSaid : Prop := wallBothUptoRow.holds Try.pinned (OpenSpec.upto wallBothSpec)

/-- 'ostraconlaw08.WallMakes', WHERE WHAT IT READS IS OF BULK AT MOST 1048576: true; the input reads as it did. -/
def wallMakesUptoRow : OpenClaim := { program := "ytbgnfchlelhbeaa", sum := "6b8dd9f5d35e9c5b1ede9acee3d6a0e6f1354e12d33740bc49d46e162af3f005", func := "ostracon/ostraconlaw08.WallMakes", spec := "wallMakes", unfollowed := true, recurses := true, plainKeys := false, apart := false, narrowed := true }
def WallMakesUptoSaid : Prop := wallMakesUptoRow.holds Try.pinned (OpenSpec.upto wallMakesSpec)

end Rows
end Go.Proofs.Ytbgnfchlelhbeaa
