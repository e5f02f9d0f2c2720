/-
  No cell of these rows narrows 'for every input' (looked for: loops, veiled, ifaces, maps, wideKeys, modest, calm, conditions, laid).
  DERIVED. THE GIVEN ROWS OF THIS SEAT. 15 by the template 'for every input the law returns true; each argument reads behind the call as it read before'; 0 by the template 'total and deterministic' (their statements: YthkokengobdgcaaGreatTotals.lean).
  GIVEN WITH THE SEED: the statements are not yours to turn. If you find one false, say at which input.
  Laid BY PROGRAM, IN A SANDBOX (cutbox-rows.mjs): the forced cells as the released guide's own fill.sh prints them over the translation 002d2c08984c113a… (all of the seat's roots in one cut). By AI agents, Wed Nov 11 2026. No macro, syntax, notation, axiom, sorry.
-/
import Derived.Test.YthkokengobdgcaaGreatChecked
import GoSem.Claim
import GoSem.ClaimJoined
import GoSem.ClaimMapViews
import Derived.JoinedTies
import Derived.KernelRfl
namespace Go.Proofs.YthkokengobdgcaaGreat
/- THE CELL 'sum', in the pinned program and in every row, IS THE sha256 OF THE DUMP (.gsa) THAT YthkokengobdgcaaGreatProg.lean LOADS. Nothing in Lean hashes anything: it is a label: what it is worth is what the hold of that sum in a sandbox is worth. -/
noncomputable def Tryz.pinned : Pinned := { name := "ythkokengobdgcaagreat", sum := "002d2c08984c113ac5301e149808b1b80b6135c06bb81718b932e4d4fea582be", checked := Tryz.checked }
namespace Rows
def none {H : Type} : Left H := { results := [], args := [] }

/-- 'ostraconlaw10.InduceKeeps': WHATEVER THE INPUT: true; the input reads as it did. -/
def induceKeepsSpec : ChangeSpec := { name := "induceKeeps", fn := fun _ => fun
  | [d1, d2] => { results := [.lit (.bool true)], args := [d1, d2] }
  | _ => none }
def induceKeepsRow : OpenClaim := { program := "ythkokengobdgcaagreat", sum := "002d2c08984c113ac5301e149808b1b80b6135c06bb81718b932e4d4fea582be", func := "ostracon/ostraconlaw10.InduceKeeps", spec := "induceKeeps", unfollowed := true, recurses := true, apart := false }
def InduceKeepsSaid : Prop := induceKeepsRow.holds Tryz.pinned (OpenSpec.ofChange induceKeepsSpec)

/-- ITS FALSE NEIGHBOUR: 'it returns false'. Refute it at one input. -/
def induceKeepsWrong : ChangeSpec := { name := "induceKeeps", fn := fun _ => fun
  | [d1, d2] => { results := [.lit (.bool false)], args := [d1, d2] }
  | _ => none }
def InduceKeepsWrongFalsely : Prop := induceKeepsRow.holds Tryz.pinned (OpenSpec.ofChange induceKeepsWrong)

/-- 'ostraconlaw10.InduceDictionaries': WHATEVER THE INPUT: true; the input reads as it did. -/
def induceDictionariesSpec : ChangeSpec := { name := "induceDictionaries", fn := fun _ => fun
  | [d1, d2] => { results := [.lit (.bool true)], args := [d1, d2] }
  | _ => none }
def induceDictionariesRow : OpenClaim := { program := "ythkokengobdgcaagreat", sum := "002d2c08984c113ac5301e149808b1b80b6135c06bb81718b932e4d4fea582be", func := "ostracon/ostraconlaw10.InduceDictionaries", spec := "induceDictionaries", unfollowed := true, recurses := true, apart := false }
def InduceDictionariesSaid : Prop := induceDictionariesRow.holds Tryz.pinned (OpenSpec.ofChange induceDictionariesSpec)

/-- ITS FALSE NEIGHBOUR: 'it returns false'. Refute it at one input. -/
def induceDictionariesWrong : ChangeSpec := { name := "induceDictionaries", fn := fun _ => fun
  | [d1, d2] => { results := [.lit (.bool false)], args := [d1, d2] }
  | _ => none }
def InduceDictionariesWrongFalsely : Prop := induceDictionariesRow.holds Tryz.pinned (OpenSpec.ofChange induceDictionariesWrong)

/-- 'ostraconlaw10.InduceTwice': WHATEVER THE INPUT: true; the input reads as it did. -/
def induceTwiceSpec : ChangeSpec := { name := "induceTwice", fn := fun _ => fun
  | [d1, d2] => { results := [.lit (.bool true)], args := [d1, d2] }
  | _ => none }
def induceTwiceRow : OpenClaim := { program := "ythkokengobdgcaagreat", sum := "002d2c08984c113ac5301e149808b1b80b6135c06bb81718b932e4d4fea582be", func := "ostracon/ostraconlaw10.InduceTwice", spec := "induceTwice", unfollowed := true, recurses := true, apart := false }
def InduceTwiceSaid : Prop := induceTwiceRow.holds Tryz.pinned (OpenSpec.ofChange induceTwiceSpec)

/-- ITS FALSE NEIGHBOUR: 'it returns false'. Refute it at one input. -/
def induceTwiceWrong : ChangeSpec := { name := "induceTwice", fn := fun _ => fun
  | [d1, d2] => { results := [.lit (.bool false)], args := [d1, d2] }
  | _ => none }
def InduceTwiceWrongFalsely : Prop := induceTwiceRow.holds Tryz.pinned (OpenSpec.ofChange induceTwiceWrong)

/-- 'ostraconlaw10.InduceOnly': WHATEVER THE INPUT: true; the input reads as it did. -/
def induceOnlySpec : ChangeSpec := { name := "induceOnly", fn := fun _ => fun
  | [d1, d2] => { results := [.lit (.bool true)], args := [d1, d2] }
  | _ => none }
def induceOnlyRow : OpenClaim := { program := "ythkokengobdgcaagreat", sum := "002d2c08984c113ac5301e149808b1b80b6135c06bb81718b932e4d4fea582be", func := "ostracon/ostraconlaw10.InduceOnly", spec := "induceOnly", unfollowed := true, recurses := true, apart := false }
def InduceOnlySaid : Prop := induceOnlyRow.holds Tryz.pinned (OpenSpec.ofChange induceOnlySpec)

/-- ITS FALSE NEIGHBOUR: 'it returns false'. Refute it at one input. -/
def induceOnlyWrong : ChangeSpec := { name := "induceOnly", fn := fun _ => fun
  | [d1, d2] => { results := [.lit (.bool false)], args := [d1, d2] }
  | _ => none }
def InduceOnlyWrongFalsely : Prop := induceOnlyRow.holds Tryz.pinned (OpenSpec.ofChange induceOnlyWrong)

/-- 'ostraconlaw10.InduceMore': WHATEVER THE INPUT: true; the input reads as it did. -/
def induceMoreSpec : ChangeSpec := { name := "induceMore", fn := fun _ => fun
  | [d1, d2, d3] => { results := [.lit (.bool true)], args := [d1, d2, d3] }
  | _ => none }
def induceMoreRow : OpenClaim := { program := "ythkokengobdgcaagreat", sum := "002d2c08984c113ac5301e149808b1b80b6135c06bb81718b932e4d4fea582be", func := "ostracon/ostraconlaw10.InduceMore", spec := "induceMore", unfollowed := true, recurses := true, apart := false }
def InduceMoreSaid : Prop := induceMoreRow.holds Tryz.pinned (OpenSpec.ofChange induceMoreSpec)

/-- ITS FALSE NEIGHBOUR: 'it returns false'. Refute it at one input. -/
def induceMoreWrong : ChangeSpec := { name := "induceMore", fn := fun _ => fun
  | [d1, d2, d3] => { results := [.lit (.bool false)], args := [d1, d2, d3] }
  | _ => none }
def InduceMoreWrongFalsely : Prop := induceMoreRow.holds Tryz.pinned (OpenSpec.ofChange induceMoreWrong)

/-- 'ostraconlaw10.InduceReadable': WHATEVER THE INPUT: true; the input reads as it did. -/
def induceReadableSpec : ChangeSpec := { name := "induceReadable", fn := fun _ => fun
  | [d1, d2, d3] => { results := [.lit (.bool true)], args := [d1, d2, d3] }
  | _ => none }
def induceReadableRow : OpenClaim := { program := "ythkokengobdgcaagreat", sum := "002d2c08984c113ac5301e149808b1b80b6135c06bb81718b932e4d4fea582be", func := "ostracon/ostraconlaw10.InduceReadable", spec := "induceReadable", unfollowed := true, recurses := true, apart := false }
def InduceReadableSaid : Prop := induceReadableRow.holds Tryz.pinned (OpenSpec.ofChange induceReadableSpec)

/-- ITS FALSE NEIGHBOUR: 'it returns false'. Refute it at one input. -/
def induceReadableWrong : ChangeSpec := { name := "induceReadable", fn := fun _ => fun
  | [d1, d2, d3] => { results := [.lit (.bool false)], args := [d1, d2, d3] }
  | _ => none }
def InduceReadableWrongFalsely : Prop := induceReadableRow.holds Tryz.pinned (OpenSpec.ofChange induceReadableWrong)

/-- 'ostraconlaw10.InduceProposes': WHATEVER THE INPUT: true; the input reads as it did. -/
def induceProposesSpec : ChangeSpec := { name := "induceProposes", fn := fun _ => fun
  | [d1, d2, d3] => { results := [.lit (.bool true)], args := [d1, d2, d3] }
  | _ => none }
def induceProposesRow : OpenClaim := { program := "ythkokengobdgcaagreat", sum := "002d2c08984c113ac5301e149808b1b80b6135c06bb81718b932e4d4fea582be", func := "ostracon/ostraconlaw10.InduceProposes", spec := "induceProposes", unfollowed := true, recurses := true, apart := false }
def InduceProposesSaid : Prop := induceProposesRow.holds Tryz.pinned (OpenSpec.ofChange induceProposesSpec)

/-- ITS FALSE NEIGHBOUR: 'it returns false'. Refute it at one input. -/
def induceProposesWrong : ChangeSpec := { name := "induceProposes", fn := fun _ => fun
  | [d1, d2, d3] => { results := [.lit (.bool false)], args := [d1, d2, d3] }
  | _ => none }
def InduceProposesWrongFalsely : Prop := induceProposesRow.holds Tryz.pinned (OpenSpec.ofChange induceProposesWrong)

/-- 'ostraconlaw10.InduceProposed': WHATEVER THE INPUT: true; the input reads as it did. -/
def induceProposedSpec : ChangeSpec := { name := "induceProposed", fn := fun _ => fun
  | [d1, d2, d3] => { results := [.lit (.bool true)], args := [d1, d2, d3] }
  | _ => none }
def induceProposedRow : OpenClaim := { program := "ythkokengobdgcaagreat", sum := "002d2c08984c113ac5301e149808b1b80b6135c06bb81718b932e4d4fea582be", func := "ostracon/ostraconlaw10.InduceProposed", spec := "induceProposed", unfollowed := true, recurses := true, apart := false }
def InduceProposedSaid : Prop := induceProposedRow.holds Tryz.pinned (OpenSpec.ofChange induceProposedSpec)

/-- ITS FALSE NEIGHBOUR: 'it returns false'. Refute it at one input. -/
def induceProposedWrong : ChangeSpec := { name := "induceProposed", fn := fun _ => fun
  | [d1, d2, d3] => { results := [.lit (.bool false)], args := [d1, d2, d3] }
  | _ => none }
def InduceProposedWrongFalsely : Prop := induceProposedRow.holds Tryz.pinned (OpenSpec.ofChange induceProposedWrong)

/-- 'ostraconlaw10.InduceChecks': WHATEVER THE INPUT: true; the input reads as it did. -/
def induceChecksSpec : ChangeSpec := { name := "induceChecks", fn := fun _ => fun
  | [d1, d2, d3] => { results := [.lit (.bool true)], args := [d1, d2, d3] }
  | _ => none }
def induceChecksRow : OpenClaim := { program := "ythkokengobdgcaagreat", sum := "002d2c08984c113ac5301e149808b1b80b6135c06bb81718b932e4d4fea582be", func := "ostracon/ostraconlaw10.InduceChecks", spec := "induceChecks", unfollowed := true, recurses := true, apart := false }
def InduceChecksSaid : Prop := induceChecksRow.holds Tryz.pinned (OpenSpec.ofChange induceChecksSpec)

/-- ITS FALSE NEIGHBOUR: 'it returns false'. Refute it at one input. -/
def induceChecksWrong : ChangeSpec := { name := "induceChecks", fn := fun _ => fun
  | [d1, d2, d3] => { results := [.lit (.bool false)], args := [d1, d2, d3] }
  | _ => none }
def InduceChecksWrongFalsely : Prop := induceChecksRow.holds Tryz.pinned (OpenSpec.ofChange induceChecksWrong)

/-- 'ostraconlaw10.InduceNeeded': WHATEVER THE INPUT: true; the input reads as it did. -/
def induceNeededSpec : ChangeSpec := { name := "induceNeeded", fn := fun _ => fun
  | [d1, d2] => { results := [.lit (.bool true)], args := [d1, d2] }
  | _ => none }
def induceNeededRow : OpenClaim := { program := "ythkokengobdgcaagreat", sum := "002d2c08984c113ac5301e149808b1b80b6135c06bb81718b932e4d4fea582be", func := "ostracon/ostraconlaw10.InduceNeeded", spec := "induceNeeded", unfollowed := true, recurses := true, apart := false }
def InduceNeededSaid : Prop := induceNeededRow.holds Tryz.pinned (OpenSpec.ofChange induceNeededSpec)

/-- ITS FALSE NEIGHBOUR: 'it returns false'. Refute it at one input. -/
def induceNeededWrong : ChangeSpec := { name := "induceNeeded", fn := fun _ => fun
  | [d1, d2] => { results := [.lit (.bool false)], args := [d1, d2] }
  | _ => none }
def InduceNeededWrongFalsely : Prop := induceNeededRow.holds Tryz.pinned (OpenSpec.ofChange induceNeededWrong)

/-- 'ostraconlaw10.InducePlaces': WHATEVER THE INPUT: true; the input reads as it did. -/
def inducePlacesSpec : ChangeSpec := { name := "inducePlaces", fn := fun _ => fun
  | [d1, d2, d3] => { results := [.lit (.bool true)], args := [d1, d2, d3] }
  | _ => none }
def inducePlacesRow : OpenClaim := { program := "ythkokengobdgcaagreat", sum := "002d2c08984c113ac5301e149808b1b80b6135c06bb81718b932e4d4fea582be", func := "ostracon/ostraconlaw10.InducePlaces", spec := "inducePlaces", inPlace := ["slices.overlaps[ostracon/read.way]"], unfollowed := true, recurses := true, apart := false }
def InducePlacesSaid : Prop := inducePlacesRow.holds Tryz.pinned (OpenSpec.ofChange inducePlacesSpec)

/-- ITS FALSE NEIGHBOUR: 'it returns false'. Refute it at one input. -/
def inducePlacesWrong : ChangeSpec := { name := "inducePlaces", fn := fun _ => fun
  | [d1, d2, d3] => { results := [.lit (.bool false)], args := [d1, d2, d3] }
  | _ => none }
def InducePlacesWrongFalsely : Prop := inducePlacesRow.holds Tryz.pinned (OpenSpec.ofChange inducePlacesWrong)

/-- 'ostraconlaw10.InducePlaced': WHATEVER THE INPUT: true; the input reads as it did. -/
def inducePlacedSpec : ChangeSpec := { name := "inducePlaced", fn := fun _ => fun
  | [d1, d2] => { results := [.lit (.bool true)], args := [d1, d2] }
  | _ => none }
def inducePlacedRow : OpenClaim := { program := "ythkokengobdgcaagreat", sum := "002d2c08984c113ac5301e149808b1b80b6135c06bb81718b932e4d4fea582be", func := "ostracon/ostraconlaw10.InducePlaced", spec := "inducePlaced", inPlace := ["slices.overlaps[ostracon/read.way]"], unfollowed := true, recurses := true, apart := false }
def InducePlacedSaid : Prop := inducePlacedRow.holds Tryz.pinned (OpenSpec.ofChange inducePlacedSpec)

/-- ITS FALSE NEIGHBOUR: 'it returns false'. Refute it at one input. -/
def inducePlacedWrong : ChangeSpec := { name := "inducePlaced", fn := fun _ => fun
  | [d1, d2] => { results := [.lit (.bool false)], args := [d1, d2] }
  | _ => none }
def InducePlacedWrongFalsely : Prop := inducePlacedRow.holds Tryz.pinned (OpenSpec.ofChange inducePlacedWrong)

/-- 'ostraconlaw10.InduceSmallest': WHATEVER THE INPUT: true; the input reads as it did. -/
def induceSmallestSpec : ChangeSpec := { name := "induceSmallest", fn := fun _ => fun
  | [d1, d2] => { results := [.lit (.bool true)], args := [d1, d2] }
  | _ => none }
def induceSmallestRow : OpenClaim := { program := "ythkokengobdgcaagreat", sum := "002d2c08984c113ac5301e149808b1b80b6135c06bb81718b932e4d4fea582be", func := "ostracon/ostraconlaw10.InduceSmallest", spec := "induceSmallest", unfollowed := true, recurses := true, apart := false }
def InduceSmallestSaid : Prop := induceSmallestRow.holds Tryz.pinned (OpenSpec.ofChange induceSmallestSpec)

/-- ITS FALSE NEIGHBOUR: 'it returns false'. Refute it at one input. -/
def induceSmallestWrong : ChangeSpec := { name := "induceSmallest", fn := fun _ => fun
  | [d1, d2] => { results := [.lit (.bool false)], args := [d1, d2] }
  | _ => none }
def InduceSmallestWrongFalsely : Prop := induceSmallestRow.holds Tryz.pinned (OpenSpec.ofChange induceSmallestWrong)

/-- 'ostraconlaw10.InduceFewest': WHATEVER THE INPUT: true; the input reads as it did. -/
def induceFewestSpec : ChangeSpec := { name := "induceFewest", fn := fun _ => fun
  | [d1, d2, d3] => { results := [.lit (.bool true)], args := [d1, d2, d3] }
  | _ => none }
def induceFewestRow : OpenClaim := { program := "ythkokengobdgcaagreat", sum := "002d2c08984c113ac5301e149808b1b80b6135c06bb81718b932e4d4fea582be", func := "ostracon/ostraconlaw10.InduceFewest", spec := "induceFewest", unfollowed := true, recurses := true, apart := false }
def InduceFewestSaid : Prop := induceFewestRow.holds Tryz.pinned (OpenSpec.ofChange induceFewestSpec)

/-- ITS FALSE NEIGHBOUR: 'it returns false'. Refute it at one input. -/
def induceFewestWrong : ChangeSpec := { name := "induceFewest", fn := fun _ => fun
  | [d1, d2, d3] => { results := [.lit (.bool false)], args := [d1, d2, d3] }
  | _ => none }
def InduceFewestWrongFalsely : Prop := induceFewestRow.holds Tryz.pinned (OpenSpec.ofChange induceFewestWrong)

/-- 'ostracontop.TopPeriods': WHATEVER THE INPUT: true; the input reads as it did. -/
def topPeriodsSpec : ChangeSpec := { name := "topPeriods", fn := fun _ => fun
  | [d1, d2] => { results := [.lit (.bool true)], args := [d1, d2] }
  | _ => none }
def topPeriodsRow : OpenClaim := { program := "ythkokengobdgcaagreat", sum := "002d2c08984c113ac5301e149808b1b80b6135c06bb81718b932e4d4fea582be", func := "ostracon/ostracontop.TopPeriods", spec := "topPeriods", inPlace := ["slices.overlaps[ostracon/read.way]"], unfollowed := true, recurses := true, apart := false }
def TopPeriodsSaid : Prop := topPeriodsRow.holds Tryz.pinned (OpenSpec.ofChange topPeriodsSpec)

/-- ITS FALSE NEIGHBOUR: 'it returns false'. Refute it at one input. -/
def topPeriodsWrong : ChangeSpec := { name := "topPeriods", fn := fun _ => fun
  | [d1, d2] => { results := [.lit (.bool false)], args := [d1, d2] }
  | _ => none }
def TopPeriodsWrongFalsely : Prop := topPeriodsRow.holds Tryz.pinned (OpenSpec.ofChange topPeriodsWrong)

/- THE SECOND FORM. 'bulk': how many values and letters a reading holds, each counted each time it is reached (what is shared counts as often as it is met; a slice's spare places count too). A statement '..UptoSaid' is the law's where the arguments, and the package variables that the reading takes, are together of bulk at most 1048576: NARROWER than '..Said'. Prove '..Said' where nothing that the law and all that it calls make is longer than what came in: it says more and counts as full. Else prove '..UptoSaid'. A law counts once. -/
mutual
def uptoBulk {H : Type} : DataW H → Nat
  | .lit (.string bytes) => bytes.length + 1
  | .lit _ => 1
  | .nil => 1
  | .ptr d => uptoBulk d + 1
  | .slice elems spare => uptoBulkAll elems + uptoBulkAll spare + 1
  | .agg parts => uptoBulkAll parts + 1
  | .iface _ d => uptoBulk d + 1
  | .map entries => uptoBulkEntries entries + 1
  | .held _ => 1
def uptoBulkAll {H : Type} : List (DataW H) → Nat
  | [] => 0
  | d :: r => uptoBulk d + uptoBulkAll r
def uptoBulkEntries {H : Type} : List (Lit × DataW H) → Nat
  | [] => 0
  | x :: r => uptoBulkEntry x + uptoBulkEntries r
def uptoBulkEntry {H : Type} : Lit × DataW H → Nat
  | (.string bytes, d) => bytes.length + uptoBulk d + 1
  | (_, d) => uptoBulk d + 1
 end
def uptoSmall : (H : Type) → List (DataW H) → Bool := fun _ ds => decide (uptoBulkAll ds ≤ 1048576)
def OpenSpec.upto (s : _root_.Go.ChangeSpec) : _root_.Go.OpenSpec := { _root_.Go.OpenSpec.ofChange s with cond := some uptoSmall }

/-- 'ostraconlaw10.InduceKeeps', WHERE WHAT IT READS IS OF BULK AT MOST 1048576: true; the input reads as it did. -/
def induceKeepsUptoRow : OpenClaim := { program := "ythkokengobdgcaagreat", sum := "002d2c08984c113ac5301e149808b1b80b6135c06bb81718b932e4d4fea582be", func := "ostracon/ostraconlaw10.InduceKeeps", spec := "induceKeeps", unfollowed := true, recurses := true, apart := false, narrowed := true }
def InduceKeepsUptoSaid : Prop := induceKeepsUptoRow.holds Tryz.pinned (OpenSpec.upto induceKeepsSpec)

/-- 'ostraconlaw10.InduceDictionaries', WHERE WHAT IT READS IS OF BULK AT MOST 1048576: true; the input reads as it did. -/
def induceDictionariesUptoRow : OpenClaim := { program := "ythkokengobdgcaagreat", sum := "002d2c08984c113ac5301e149808b1b80b6135c06bb81718b932e4d4fea582be", func := "ostracon/ostraconlaw10.InduceDictionaries", spec := "induceDictionaries", unfollowed := true, recurses := true, apart := false, narrowed := true }
def InduceDictionariesUptoSaid : Prop := induceDictionariesUptoRow.holds Tryz.pinned (OpenSpec.upto induceDictionariesSpec)

/-- 'ostraconlaw10.InduceTwice', WHERE WHAT IT READS IS OF BULK AT MOST 1048576: true; the input reads as it did. -/
def induceTwiceUptoRow : OpenClaim := { program := "ythkokengobdgcaagreat", sum := "002d2c08984c113ac5301e149808b1b80b6135c06bb81718b932e4d4fea582be", func := "ostracon/ostraconlaw10.InduceTwice", spec := "induceTwice", unfollowed := true, recurses := true, apart := false, narrowed := true }
def InduceTwiceUptoSaid : Prop := induceTwiceUptoRow.holds Tryz.pinned (OpenSpec.upto induceTwiceSpec)

/-- 'ostraconlaw10.InduceOnly', WHERE WHAT IT READS IS OF BULK AT MOST 1048576: true; the input reads as it did. -/
def induceOnlyUptoRow : OpenClaim := { program := "ythkokengobdgcaagreat", sum := "002d2c08984c113ac5301e149808b1b80b6135c06bb81718b932e4d4fea582be", func := "ostracon/ostraconlaw10.InduceOnly", spec := "induceOnly", unfollowed := true, recurses := true, apart := false, narrowed := true }
def InduceOnlyUptoSaid : Prop := induceOnlyUptoRow.holds Tryz.pinned (OpenSpec.upto induceOnlySpec)

/-- 'ostraconlaw10.InduceMore', WHERE WHAT IT READS IS OF BULK AT MOST 1048576: true; the input reads as it did. -/
def induceMoreUptoRow : OpenClaim := { program := "ythkokengobdgcaagreat", sum := "002d2c08984c113ac5301e149808b1b80b6135c06bb81718b932e4d4fea582be", func := "ostracon/ostraconlaw10.InduceMore", spec := "induceMore", unfollowed := true, recurses := true, apart := false, narrowed := true }
def InduceMoreUptoSaid : Prop := induceMoreUptoRow.holds Tryz.pinned (OpenSpec.upto induceMoreSpec)

/-- 'ostraconlaw10.InduceReadable', WHERE WHAT IT READS IS OF BULK AT MOST 1048576: true; the input reads as it did. -/
def induceReadableUptoRow : OpenClaim := { program := "ythkokengobdgcaagreat", sum := "002d2c08984c113ac5301e149808b1b80b6135c06bb81718b932e4d4fea582be", func := "ostracon/ostraconlaw10.InduceReadable", spec := "induceReadable", unfollowed := true, recurses := true, apart := false, narrowed := true }
def InduceReadableUptoSaid : Prop := induceReadableUptoRow.holds Tryz.pinned (OpenSpec.upto induceReadableSpec)

/-- 'ostraconlaw10.InduceProposes', WHERE WHAT IT READS IS OF BULK AT MOST 1048576: true; the input reads as it did. -/
def induceProposesUptoRow : OpenClaim := { program := "ythkokengobdgcaagreat", sum := "002d2c08984c113ac5301e149808b1b80b6135c06bb81718b932e4d4fea582be", func := "ostracon/ostraconlaw10.InduceProposes", spec := "induceProposes", unfollowed := true, recurses := true, apart := false, narrowed := true }
def InduceProposesUptoSaid : Prop := induceProposesUptoRow.holds Tryz.pinned (OpenSpec.upto induceProposesSpec)

/-- 'ostraconlaw10.InduceProposed', WHERE WHAT IT READS IS OF BULK AT MOST 1048576: true; the input reads as it did. -/
def induceProposedUptoRow : OpenClaim := { program := "ythkokengobdgcaagreat", sum := "002d2c08984c113ac5301e149808b1b80b6135c06bb81718b932e4d4fea582be", func := "ostracon/ostraconlaw10.InduceProposed", spec := "induceProposed", unfollowed := true, recurses := true, apart := false, narrowed := true }
def InduceProposedUptoSaid : Prop := induceProposedUptoRow.holds Tryz.pinned (OpenSpec.upto induceProposedSpec)

/-- 'ostraconlaw10.InduceChecks', WHERE WHAT IT READS IS OF BULK AT MOST 1048576: true; the input reads as it did. -/
def induceChecksUptoRow : OpenClaim := { program := "ythkokengobdgcaagreat", sum := "002d2c08984c113ac5301e149808b1b80b6135c06bb81718b932e4d4fea582be", func := "ostracon/ostraconlaw10.InduceChecks", spec := "induceChecks", unfollowed := true, recurses := true, apart := false, narrowed := true }
def InduceChecksUptoSaid : Prop := induceChecksUptoRow.holds Tryz.pinned (OpenSpec.upto induceChecksSpec)

/-- 'ostraconlaw10.InduceNeeded', WHERE WHAT IT READS IS OF BULK AT MOST 1048576: true; the input reads as it did. -/
def induceNeededUptoRow : OpenClaim := { program := "ythkokengobdgcaagreat", sum := "002d2c08984c113ac5301e149808b1b80b6135c06bb81718b932e4d4fea582be", func := "ostracon/ostraconlaw10.InduceNeeded", spec := "induceNeeded", unfollowed := true, recurses := true, apart := false, narrowed := true }
def InduceNeededUptoSaid : Prop := induceNeededUptoRow.holds Tryz.pinned (OpenSpec.upto induceNeededSpec)

/-- 'ostraconlaw10.InducePlaces', WHERE WHAT IT READS IS OF BULK AT MOST 1048576: true; the input reads as it did. -/
def inducePlacesUptoRow : OpenClaim := { program := "ythkokengobdgcaagreat", sum := "002d2c08984c113ac5301e149808b1b80b6135c06bb81718b932e4d4fea582be", func := "ostracon/ostraconlaw10.InducePlaces", spec := "inducePlaces", inPlace := ["slices.overlaps[ostracon/read.way]"], unfollowed := true, recurses := true, apart := false, narrowed := true }
def InducePlacesUptoSaid : Prop := inducePlacesUptoRow.holds Tryz.pinned (OpenSpec.upto inducePlacesSpec)

/-- 'ostraconlaw10.InducePlaced', WHERE WHAT IT READS IS OF BULK AT MOST 1048576: true; the input reads as it did. -/
def inducePlacedUptoRow : OpenClaim := { program := "ythkokengobdgcaagreat", sum := "002d2c08984c113ac5301e149808b1b80b6135c06bb81718b932e4d4fea582be", func := "ostracon/ostraconlaw10.InducePlaced", spec := "inducePlaced", inPlace := ["slices.overlaps[ostracon/read.way]"], unfollowed := true, recurses := true, apart := false, narrowed := true }
def InducePlacedUptoSaid : Prop := inducePlacedUptoRow.holds Tryz.pinned (OpenSpec.upto inducePlacedSpec)

/-- 'ostraconlaw10.InduceSmallest', WHERE WHAT IT READS IS OF BULK AT MOST 1048576: true; the input reads as it did. -/
def induceSmallestUptoRow : OpenClaim := { program := "ythkokengobdgcaagreat", sum := "002d2c08984c113ac5301e149808b1b80b6135c06bb81718b932e4d4fea582be", func := "ostracon/ostraconlaw10.InduceSmallest", spec := "induceSmallest", unfollowed := true, recurses := true, apart := false, narrowed := true }
def InduceSmallestUptoSaid : Prop := induceSmallestUptoRow.holds Tryz.pinned (OpenSpec.upto induceSmallestSpec)

/-- 'ostraconlaw10.InduceFewest', WHERE WHAT IT READS IS OF BULK AT MOST 1048576: true; the input reads as it did. -/
def induceFewestUptoRow : OpenClaim := { program := "ythkokengobdgcaagreat", sum := "002d2c08984c113ac5301e149808b1b80b6135c06bb81718b932e4d4fea582be", func := "ostracon/ostraconlaw10.InduceFewest", spec := "induceFewest", unfollowed := true, recurses := true, apart := false, narrowed := true }
def InduceFewestUptoSaid : Prop := induceFewestUptoRow.holds Tryz.pinned (OpenSpec.upto induceFewestSpec)

/-- 'ostracontop.TopPeriods', WHERE WHAT IT READS IS OF BULK AT MOST 1048576: true; the input reads as it did. -/
def topPeriodsUptoRow : OpenClaim := { program := "ythkokengobdgcaagreat", sum := "002d2c08984c113ac5301e149808b1b80b6135c06bb81718b932e4d4fea582be", func := "ostracon/ostracontop.TopPeriods", spec := "topPeriods", inPlace := ["slices.overlaps[ostracon/read.way]"], unfollowed := true, recurses := true, apart := false, narrowed := true }
def TopPeriodsUptoSaid : Prop := topPeriodsUptoRow.holds Tryz.pinned (OpenSpec.upto topPeriodsSpec)

end Rows
end Go.Proofs.YthkokengobdgcaaGreat
