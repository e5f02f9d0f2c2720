/-
  No cell of these rows narrows 'for every input' (looked for: loops, veiled, ifaces, maps, wideKeys, modest, calm, conditions, laid).
  DERIVED. THE GIVEN ROWS OF THIS SEAT. 14 by the template 'for every input the law returns true; each argument reads behind the call as it read before'; 0 by the template 'total and deterministic' (their statements: YtbmcnieifibckaaGreatTotals.lean).
  GIVEN WITH THE SEED: the statements are not yours to turn. If you find one false, say at which input.
  Laid BY PROGRAM, IN A SANDBOX (cutbox-rows.mjs): the forced cells as the released guide's own fill.sh prints them over the translation 96be69bb45eba12c… (all of the seat's roots in one cut). By AI agents, Wed Nov 11 2026. No macro, syntax, notation, axiom, sorry.
-/
import Derived.Test.YtbmcnieifibckaaGreatChecked
import GoSem.Claim
import GoSem.ClaimJoined
import GoSem.ClaimMapViews
import Derived.JoinedTies
import Derived.KernelRfl
namespace Go.Proofs.YtbmcnieifibckaaGreat
/- THE CELL 'sum', in the pinned program and in every row, IS THE sha256 OF THE DUMP (.gsa) THAT YtbmcnieifibckaaGreatProg.lean LOADS. Nothing in Lean hashes anything: it is a label: what it is worth is what the hold of that sum in a sandbox is worth. -/
noncomputable def Tryz.pinned : Pinned := { name := "ytbmcnieifibckaagreat", sum := "96be69bb45eba12cf53f50603eda148327e8b9a8bcae923231ea96d89a86e0bf", checked := Tryz.checked }
namespace Rows
def none {H : Type} : Left H := { results := [], args := [] }

/-- 'ostraconlaw07.SpellLists': WHATEVER THE INPUT: true; the input reads as it did. -/
def spellListsSpec : ChangeSpec := { name := "spellLists", fn := fun _ => fun
  | [d1, d2, d3] => { results := [.lit (.bool true)], args := [d1, d2, d3] }
  | _ => none }
def spellListsRow : OpenClaim := { program := "ytbmcnieifibckaagreat", sum := "96be69bb45eba12cf53f50603eda148327e8b9a8bcae923231ea96d89a86e0bf", func := "ostracon/ostraconlaw07.SpellLists", spec := "spellLists", inPlace := ["slices.overlaps[ostracon/spell.way]"], unfollowed := true, recurses := true, plainKeys := false, apart := false }
def SpellListsSaid : Prop := spellListsRow.holds Tryz.pinned (OpenSpec.ofChange spellListsSpec)

/-- ITS FALSE NEIGHBOUR: 'it returns false'. Refute it at one input. -/
def spellListsWrong : ChangeSpec := { name := "spellLists", fn := fun _ => fun
  | [d1, d2, d3] => { results := [.lit (.bool false)], args := [d1, d2, d3] }
  | _ => none }
def SpellListsWrongFalsely : Prop := spellListsRow.holds Tryz.pinned (OpenSpec.ofChange spellListsWrong)

/-- 'ostraconlaw07.SpellEasier': WHATEVER THE INPUT: true; the input reads as it did. -/
def spellEasierSpec : ChangeSpec := { name := "spellEasier", fn := fun _ => fun
  | [d1, d2, d3] => { results := [.lit (.bool true)], args := [d1, d2, d3] }
  | _ => none }
def spellEasierRow : OpenClaim := { program := "ytbmcnieifibckaagreat", sum := "96be69bb45eba12cf53f50603eda148327e8b9a8bcae923231ea96d89a86e0bf", func := "ostracon/ostraconlaw07.SpellEasier", spec := "spellEasier", inPlace := ["slices.overlaps[ostracon/spell.way]"], unfollowed := true, recurses := true, plainKeys := false, apart := false }
def SpellEasierSaid : Prop := spellEasierRow.holds Tryz.pinned (OpenSpec.ofChange spellEasierSpec)

/-- ITS FALSE NEIGHBOUR: 'it returns false'. Refute it at one input. -/
def spellEasierWrong : ChangeSpec := { name := "spellEasier", fn := fun _ => fun
  | [d1, d2, d3] => { results := [.lit (.bool false)], args := [d1, d2, d3] }
  | _ => none }
def SpellEasierWrongFalsely : Prop := spellEasierRow.holds Tryz.pinned (OpenSpec.ofChange spellEasierWrong)

/-- 'ostraconlaw07.SpellCounts': WHATEVER THE INPUT: true; the input reads as it did. -/
def spellCountsSpec : ChangeSpec := { name := "spellCounts", fn := fun _ => fun
  | [d1, d2, d3] => { results := [.lit (.bool true)], args := [d1, d2, d3] }
  | _ => none }
def spellCountsRow : OpenClaim := { program := "ytbmcnieifibckaagreat", sum := "96be69bb45eba12cf53f50603eda148327e8b9a8bcae923231ea96d89a86e0bf", func := "ostracon/ostraconlaw07.SpellCounts", spec := "spellCounts", inPlace := ["slices.overlaps[ostracon/spell.way]"], unfollowed := true, recurses := true, plainKeys := false, apart := false }
def SpellCountsSaid : Prop := spellCountsRow.holds Tryz.pinned (OpenSpec.ofChange spellCountsSpec)

/-- ITS FALSE NEIGHBOUR: 'it returns false'. Refute it at one input. -/
def spellCountsWrong : ChangeSpec := { name := "spellCounts", fn := fun _ => fun
  | [d1, d2, d3] => { results := [.lit (.bool false)], args := [d1, d2, d3] }
  | _ => none }
def SpellCountsWrongFalsely : Prop := spellCountsRow.holds Tryz.pinned (OpenSpec.ofChange spellCountsWrong)

/-- 'ostraconlaw07.SpellLines': WHATEVER THE INPUT: true; the input reads as it did. -/
def spellLinesSpec : ChangeSpec := { name := "spellLines", fn := fun _ => fun
  | [d1, d2, d3] => { results := [.lit (.bool true)], args := [d1, d2, d3] }
  | _ => none }
def spellLinesRow : OpenClaim := { program := "ytbmcnieifibckaagreat", sum := "96be69bb45eba12cf53f50603eda148327e8b9a8bcae923231ea96d89a86e0bf", func := "ostracon/ostraconlaw07.SpellLines", spec := "spellLines", inPlace := ["slices.overlaps[ostracon/spell.way]"], unfollowed := true, recurses := true, plainKeys := false, apart := false }
def SpellLinesSaid : Prop := spellLinesRow.holds Tryz.pinned (OpenSpec.ofChange spellLinesSpec)

/-- ITS FALSE NEIGHBOUR: 'it returns false'. Refute it at one input. -/
def spellLinesWrong : ChangeSpec := { name := "spellLines", fn := fun _ => fun
  | [d1, d2, d3] => { results := [.lit (.bool false)], args := [d1, d2, d3] }
  | _ => none }
def SpellLinesWrongFalsely : Prop := spellLinesRow.holds Tryz.pinned (OpenSpec.ofChange spellLinesWrong)

/-- 'ostraconlaw07.SpellCommons': WHATEVER THE INPUT: true; the input reads as it did. -/
def spellCommonsSpec : ChangeSpec := { name := "spellCommons", fn := fun _ => fun
  | [d1, d2, d3] => { results := [.lit (.bool true)], args := [d1, d2, d3] }
  | _ => none }
def spellCommonsRow : OpenClaim := { program := "ytbmcnieifibckaagreat", sum := "96be69bb45eba12cf53f50603eda148327e8b9a8bcae923231ea96d89a86e0bf", func := "ostracon/ostraconlaw07.SpellCommons", spec := "spellCommons", inPlace := ["slices.overlaps[ostracon/spell.way]"], unfollowed := true, recurses := true, plainKeys := false, apart := false }
def SpellCommonsSaid : Prop := spellCommonsRow.holds Tryz.pinned (OpenSpec.ofChange spellCommonsSpec)

/-- ITS FALSE NEIGHBOUR: 'it returns false'. Refute it at one input. -/
def spellCommonsWrong : ChangeSpec := { name := "spellCommons", fn := fun _ => fun
  | [d1, d2, d3] => { results := [.lit (.bool false)], args := [d1, d2, d3] }
  | _ => none }
def SpellCommonsWrongFalsely : Prop := spellCommonsRow.holds Tryz.pinned (OpenSpec.ofChange spellCommonsWrong)

/-- 'ostraconlaw07.SpellPrices': WHATEVER THE INPUT: true; the input reads as it did. -/
def spellPricesSpec : ChangeSpec := { name := "spellPrices", fn := fun _ => fun
  | [d1, d2, d3] => { results := [.lit (.bool true)], args := [d1, d2, d3] }
  | _ => none }
def spellPricesRow : OpenClaim := { program := "ytbmcnieifibckaagreat", sum := "96be69bb45eba12cf53f50603eda148327e8b9a8bcae923231ea96d89a86e0bf", func := "ostracon/ostraconlaw07.SpellPrices", spec := "spellPrices", inPlace := ["slices.overlaps[ostracon/spell.way]"], unfollowed := true, recurses := true, plainKeys := false, apart := false }
def SpellPricesSaid : Prop := spellPricesRow.holds Tryz.pinned (OpenSpec.ofChange spellPricesSpec)

/-- ITS FALSE NEIGHBOUR: 'it returns false'. Refute it at one input. -/
def spellPricesWrong : ChangeSpec := { name := "spellPrices", fn := fun _ => fun
  | [d1, d2, d3] => { results := [.lit (.bool false)], args := [d1, d2, d3] }
  | _ => none }
def SpellPricesWrongFalsely : Prop := spellPricesRow.holds Tryz.pinned (OpenSpec.ofChange spellPricesWrong)

/-- 'ostraconlaw07.SpellForms': WHATEVER THE INPUT: true; the input reads as it did. -/
def spellFormsSpec : ChangeSpec := { name := "spellForms", fn := fun _ => fun
  | [d1, d2] => { results := [.lit (.bool true)], args := [d1, d2] }
  | _ => none }
def spellFormsRow : OpenClaim := { program := "ytbmcnieifibckaagreat", sum := "96be69bb45eba12cf53f50603eda148327e8b9a8bcae923231ea96d89a86e0bf", func := "ostracon/ostraconlaw07.SpellForms", spec := "spellForms", inPlace := ["slices.overlaps[ostracon/spell.way]"], unfollowed := true, recurses := true, plainKeys := false, apart := false }
def SpellFormsSaid : Prop := spellFormsRow.holds Tryz.pinned (OpenSpec.ofChange spellFormsSpec)

/-- ITS FALSE NEIGHBOUR: 'it returns false'. Refute it at one input. -/
def spellFormsWrong : ChangeSpec := { name := "spellForms", fn := fun _ => fun
  | [d1, d2] => { results := [.lit (.bool false)], args := [d1, d2] }
  | _ => none }
def SpellFormsWrongFalsely : Prop := spellFormsRow.holds Tryz.pinned (OpenSpec.ofChange spellFormsWrong)

/-- 'ostraconlaw07.SpellBoth': WHATEVER THE INPUT: true; the input reads as it did. -/
def spellBothSpec : ChangeSpec := { name := "spellBoth", fn := fun _ => fun
  | [d1, d2, d3] => { results := [.lit (.bool true)], args := [d1, d2, d3] }
  | _ => none }
def spellBothRow : OpenClaim := { program := "ytbmcnieifibckaagreat", sum := "96be69bb45eba12cf53f50603eda148327e8b9a8bcae923231ea96d89a86e0bf", func := "ostracon/ostraconlaw07.SpellBoth", spec := "spellBoth", inPlace := ["slices.overlaps[ostracon/spell.way]"], unfollowed := true, recurses := true, plainKeys := false, apart := false }
def SpellBothSaid : Prop := spellBothRow.holds Tryz.pinned (OpenSpec.ofChange spellBothSpec)

/-- ITS FALSE NEIGHBOUR: 'it returns false'. Refute it at one input. -/
def spellBothWrong : ChangeSpec := { name := "spellBoth", fn := fun _ => fun
  | [d1, d2, d3] => { results := [.lit (.bool false)], args := [d1, d2, d3] }
  | _ => none }
def SpellBothWrongFalsely : Prop := spellBothRow.holds Tryz.pinned (OpenSpec.ofChange spellBothWrong)

/-- 'ostraconlaw07.SpellListed': WHATEVER THE INPUT: true; the input reads as it did. -/
def spellListedSpec : ChangeSpec := { name := "spellListed", fn := fun _ => fun
  | [d1, d2, d3] => { results := [.lit (.bool true)], args := [d1, d2, d3] }
  | _ => none }
def spellListedRow : OpenClaim := { program := "ytbmcnieifibckaagreat", sum := "96be69bb45eba12cf53f50603eda148327e8b9a8bcae923231ea96d89a86e0bf", func := "ostracon/ostraconlaw07.SpellListed", spec := "spellListed", inPlace := ["slices.overlaps[ostracon/spell.way]"], unfollowed := true, recurses := true, plainKeys := false, apart := false }
def SpellListedSaid : Prop := spellListedRow.holds Tryz.pinned (OpenSpec.ofChange spellListedSpec)

/-- ITS FALSE NEIGHBOUR: 'it returns false'. Refute it at one input. -/
def spellListedWrong : ChangeSpec := { name := "spellListed", fn := fun _ => fun
  | [d1, d2, d3] => { results := [.lit (.bool false)], args := [d1, d2, d3] }
  | _ => none }
def SpellListedWrongFalsely : Prop := spellListedRow.holds Tryz.pinned (OpenSpec.ofChange spellListedWrong)

/-- 'ostraconlaw07.SpellLearns': WHATEVER THE INPUT: true; the input reads as it did. -/
def spellLearnsSpec : ChangeSpec := { name := "spellLearns", fn := fun _ => fun
  | [d1, d2] => { results := [.lit (.bool true)], args := [d1, d2] }
  | _ => none }
def spellLearnsRow : OpenClaim := { program := "ytbmcnieifibckaagreat", sum := "96be69bb45eba12cf53f50603eda148327e8b9a8bcae923231ea96d89a86e0bf", func := "ostracon/ostraconlaw07.SpellLearns", spec := "spellLearns", inPlace := ["slices.overlaps[ostracon/spell.way]", "slices.overlaps[ostracon/read.way]"], unfollowed := true, recurses := true, plainKeys := false, apart := false }
def SpellLearnsSaid : Prop := spellLearnsRow.holds Tryz.pinned (OpenSpec.ofChange spellLearnsSpec)

/-- ITS FALSE NEIGHBOUR: 'it returns false'. Refute it at one input. -/
def spellLearnsWrong : ChangeSpec := { name := "spellLearns", fn := fun _ => fun
  | [d1, d2] => { results := [.lit (.bool false)], args := [d1, d2] }
  | _ => none }
def SpellLearnsWrongFalsely : Prop := spellLearnsRow.holds Tryz.pinned (OpenSpec.ofChange spellLearnsWrong)

/-- 'ostraconlaw07.SpellRespelt': WHATEVER THE INPUT: true; the input reads as it did. -/
def spellRespeltSpec : ChangeSpec := { name := "spellRespelt", fn := fun _ => fun
  | [d1, d2, d3] => { results := [.lit (.bool true)], args := [d1, d2, d3] }
  | _ => none }
def spellRespeltRow : OpenClaim := { program := "ytbmcnieifibckaagreat", sum := "96be69bb45eba12cf53f50603eda148327e8b9a8bcae923231ea96d89a86e0bf", func := "ostracon/ostraconlaw07.SpellRespelt", spec := "spellRespelt", inPlace := ["slices.overlaps[ostracon/spell.way]", "slices.overlaps[ostracon/read.way]"], unfollowed := true, recurses := true, plainKeys := false, apart := false }
def SpellRespeltSaid : Prop := spellRespeltRow.holds Tryz.pinned (OpenSpec.ofChange spellRespeltSpec)

/-- ITS FALSE NEIGHBOUR: 'it returns false'. Refute it at one input. -/
def spellRespeltWrong : ChangeSpec := { name := "spellRespelt", fn := fun _ => fun
  | [d1, d2, d3] => { results := [.lit (.bool false)], args := [d1, d2, d3] }
  | _ => none }
def SpellRespeltWrongFalsely : Prop := spellRespeltRow.holds Tryz.pinned (OpenSpec.ofChange spellRespeltWrong)

/-- 'ostraconlaw07.SpellRewrites': WHATEVER THE INPUT: true; the input reads as it did. -/
def spellRewritesSpec : ChangeSpec := { name := "spellRewrites", fn := fun _ => fun
  | [d1, d2, d3] => { results := [.lit (.bool true)], args := [d1, d2, d3] }
  | _ => none }
def spellRewritesRow : OpenClaim := { program := "ytbmcnieifibckaagreat", sum := "96be69bb45eba12cf53f50603eda148327e8b9a8bcae923231ea96d89a86e0bf", func := "ostracon/ostraconlaw07.SpellRewrites", spec := "spellRewrites", inPlace := ["slices.overlaps[ostracon/spell.way]", "slices.overlaps[ostracon/read.way]"], unfollowed := true, recurses := true, plainKeys := false, apart := false }
def SpellRewritesSaid : Prop := spellRewritesRow.holds Tryz.pinned (OpenSpec.ofChange spellRewritesSpec)

/-- ITS FALSE NEIGHBOUR: 'it returns false'. Refute it at one input. -/
def spellRewritesWrong : ChangeSpec := { name := "spellRewrites", fn := fun _ => fun
  | [d1, d2, d3] => { results := [.lit (.bool false)], args := [d1, d2, d3] }
  | _ => none }
def SpellRewritesWrongFalsely : Prop := spellRewritesRow.holds Tryz.pinned (OpenSpec.ofChange spellRewritesWrong)

/-- 'ostraconlaw07.SpellReadBack': WHATEVER THE INPUT: true; the input reads as it did. -/
def spellReadBackSpec : ChangeSpec := { name := "spellReadBack", fn := fun _ => fun
  | [d1, d2, d3] => { results := [.lit (.bool true)], args := [d1, d2, d3] }
  | _ => none }
def spellReadBackRow : OpenClaim := { program := "ytbmcnieifibckaagreat", sum := "96be69bb45eba12cf53f50603eda148327e8b9a8bcae923231ea96d89a86e0bf", func := "ostracon/ostraconlaw07.SpellReadBack", spec := "spellReadBack", inPlace := ["slices.overlaps[ostracon/spell.way]", "slices.overlaps[ostracon/read.way]"], unfollowed := true, recurses := true, plainKeys := false, apart := false }
def SpellReadBackSaid : Prop := spellReadBackRow.holds Tryz.pinned (OpenSpec.ofChange spellReadBackSpec)

/-- ITS FALSE NEIGHBOUR: 'it returns false'. Refute it at one input. -/
def spellReadBackWrong : ChangeSpec := { name := "spellReadBack", fn := fun _ => fun
  | [d1, d2, d3] => { results := [.lit (.bool false)], args := [d1, d2, d3] }
  | _ => none }
def SpellReadBackWrongFalsely : Prop := spellReadBackRow.holds Tryz.pinned (OpenSpec.ofChange spellReadBackWrong)

/-- 'ostraconlaw07.SpellLearned': WHATEVER THE INPUT: true; the input reads as it did. -/
def spellLearnedSpec : ChangeSpec := { name := "spellLearned", fn := fun _ => fun
  | [d1, d2] => { results := [.lit (.bool true)], args := [d1, d2] }
  | _ => none }
def spellLearnedRow : OpenClaim := { program := "ytbmcnieifibckaagreat", sum := "96be69bb45eba12cf53f50603eda148327e8b9a8bcae923231ea96d89a86e0bf", func := "ostracon/ostraconlaw07.SpellLearned", spec := "spellLearned", inPlace := ["slices.overlaps[ostracon/spell.way]", "slices.overlaps[ostracon/read.way]"], unfollowed := true, recurses := true, plainKeys := false, apart := false }
def SpellLearnedSaid : Prop := spellLearnedRow.holds Tryz.pinned (OpenSpec.ofChange spellLearnedSpec)

/-- ITS FALSE NEIGHBOUR: 'it returns false'. Refute it at one input. -/
def spellLearnedWrong : ChangeSpec := { name := "spellLearned", fn := fun _ => fun
  | [d1, d2] => { results := [.lit (.bool false)], args := [d1, d2] }
  | _ => none }
def SpellLearnedWrongFalsely : Prop := spellLearnedRow.holds Tryz.pinned (OpenSpec.ofChange spellLearnedWrong)

/- THE SECOND FORM. 'bulk': how many values and letters a reading holds, each counted each time it is reached (what is shared counts as often as it is met; a slice's spare places count too). A statement '..UptoSaid' is the law's where the arguments, and the package variables that the reading takes, are together of bulk at most 1048576: NARROWER than '..Said'. Prove '..Said' where nothing that the law and all that it calls make is longer than what came in: it says more and counts as full. Else prove '..UptoSaid'. A law counts once. -/
mutual
def uptoBulk {H : Type} : DataW H → Nat
  | .lit (.string bytes) => bytes.length + 1
  | .lit _ => 1
  | .nil => 1
  | .ptr d => uptoBulk d + 1
  | .slice elems spare => uptoBulkAll elems + uptoBulkAll spare + 1
  | .agg parts => uptoBulkAll parts + 1
  | .iface _ d => uptoBulk d + 1
  | .map entries => uptoBulkEntries entries + 1
  | .held _ => 1
def uptoBulkAll {H : Type} : List (DataW H) → Nat
  | [] => 0
  | d :: r => uptoBulk d + uptoBulkAll r
def uptoBulkEntries {H : Type} : List (Lit × DataW H) → Nat
  | [] => 0
  | x :: r => uptoBulkEntry x + uptoBulkEntries r
def uptoBulkEntry {H : Type} : Lit × DataW H → Nat
  | (.string bytes, d) => bytes.length + uptoBulk d + 1
  | (_, d) => uptoBulk d + 1
 end
def uptoSmall : (H : Type) → List (DataW H) → Bool := fun _ ds => decide (uptoBulkAll ds ≤ 1048576)
def OpenSpec.upto (s : _root_.Go.ChangeSpec) : _root_.Go.OpenSpec := { _root_.Go.OpenSpec.ofChange s with cond := some uptoSmall }

/-- 'ostraconlaw07.SpellLists', WHERE WHAT IT READS IS OF BULK AT MOST 1048576: true; the input reads as it did. -/
def spellListsUptoRow : OpenClaim := { program := "ytbmcnieifibckaagreat", sum := "96be69bb45eba12cf53f50603eda148327e8b9a8bcae923231ea96d89a86e0bf", func := "ostracon/ostraconlaw07.SpellLists", spec := "spellLists", inPlace := ["slices.overlaps[ostracon/spell.way]"], unfollowed := true, recurses := true, plainKeys := false, apart := false, narrowed := true }
def SpellListsUptoSaid : Prop := spellListsUptoRow.holds Tryz.pinned (OpenSpec.upto spellListsSpec)

/-- 'ostraconlaw07.SpellEasier', WHERE WHAT IT READS IS OF BULK AT MOST 1048576: true; the input reads as it did. -/
def spellEasierUptoRow : OpenClaim := { program := "ytbmcnieifibckaagreat", sum := "96be69bb45eba12cf53f50603eda148327e8b9a8bcae923231ea96d89a86e0bf", func := "ostracon/ostraconlaw07.SpellEasier", spec := "spellEasier", inPlace := ["slices.overlaps[ostracon/spell.way]"], unfollowed := true, recurses := true, plainKeys := false, apart := false, narrowed := true }
def SpellEasierUptoSaid : Prop := spellEasierUptoRow.holds Tryz.pinned (OpenSpec.upto spellEasierSpec)

/-- 'ostraconlaw07.SpellCounts', WHERE WHAT IT READS IS OF BULK AT MOST 1048576: true; the input reads as it did. -/
def spellCountsUptoRow : OpenClaim := { program := "ytbmcnieifibckaagreat", sum := "96be69bb45eba12cf53f50603eda148327e8b9a8bcae923231ea96d89a86e0bf", func := "ostracon/ostraconlaw07.SpellCounts", spec := "spellCounts", inPlace := ["slices.overlaps[ostracon/spell.way]"], unfollowed := true, recurses := true, plainKeys := false, apart := false, narrowed := true }
def SpellCountsUptoSaid : Prop := spellCountsUptoRow.holds Tryz.pinned (OpenSpec.upto spellCountsSpec)

/-- 'ostraconlaw07.SpellLines', WHERE WHAT IT READS IS OF BULK AT MOST 1048576: true; the input reads as it did. -/
def spellLinesUptoRow : OpenClaim := { program := "ytbmcnieifibckaagreat", sum := "96be69bb45eba12cf53f50603eda148327e8b9a8bcae923231ea96d89a86e0bf", func := "ostracon/ostraconlaw07.SpellLines", spec := "spellLines", inPlace := ["slices.overlaps[ostracon/spell.way]"], unfollowed := true, recurses := true, plainKeys := false, apart := false, narrowed := true }
def SpellLinesUptoSaid : Prop := spellLinesUptoRow.holds Tryz.pinned (OpenSpec.upto spellLinesSpec)

/-- 'ostraconlaw07.SpellCommons', WHERE WHAT IT READS IS OF BULK AT MOST 1048576: true; the input reads as it did. -/
def spellCommonsUptoRow : OpenClaim := { program := "ytbmcnieifibckaagreat", sum := "96be69bb45eba12cf53f50603eda148327e8b9a8bcae923231ea96d89a86e0bf", func := "ostracon/ostraconlaw07.SpellCommons", spec := "spellCommons", inPlace := ["slices.overlaps[ostracon/spell.way]"], unfollowed := true, recurses := true, plainKeys := false, apart := false, narrowed := true }
def SpellCommonsUptoSaid : Prop := spellCommonsUptoRow.holds Tryz.pinned (OpenSpec.upto spellCommonsSpec)

/-- 'ostraconlaw07.SpellPrices', WHERE WHAT IT READS IS OF BULK AT MOST 1048576: true; the input reads as it did. -/
def spellPricesUptoRow : OpenClaim := { program := "ytbmcnieifibckaagreat", sum := "96be69bb45eba12cf53f50603eda148327e8b9a8bcae923231ea96d89a86e0bf", func := "ostracon/ostraconlaw07.SpellPrices", spec := "spellPrices", inPlace := ["slices.overlaps[ostracon/spell.way]"], unfollowed := true, recurses := true, plainKeys := false, apart := false, narrowed := true }
def SpellPricesUptoSaid : Prop := spellPricesUptoRow.holds Tryz.pinned (OpenSpec.upto spellPricesSpec)

/-- 'ostraconlaw07.SpellForms', WHERE WHAT IT READS IS OF BULK AT MOST 1048576: true; the input reads as it did. -/
def spellFormsUptoRow : OpenClaim := { program := "ytbmcnieifibckaagreat", sum := "96be69bb45eba12cf53f50603eda148327e8b9a8bcae923231ea96d89a86e0bf", func := "ostracon/ostraconlaw07.SpellForms", spec := "spellForms", inPlace := ["slices.overlaps[ostracon/spell.way]"], unfollowed := true, recurses := true, plainKeys := false, apart := false, narrowed := true }
def SpellFormsUptoSaid : Prop := spellFormsUptoRow.holds Tryz.pinned (OpenSpec.upto spellFormsSpec)

/-- 'ostraconlaw07.SpellBoth', WHERE WHAT IT READS IS OF BULK AT MOST 1048576: true; the input reads as it did. -/
def spellBothUptoRow : OpenClaim := { program := "ytbmcnieifibckaagreat", sum := "96be69bb45eba12cf53f50603eda148327e8b9a8bcae923231ea96d89a86e0bf", func := "ostracon/ostraconlaw07.SpellBoth", spec := "spellBoth", inPlace := ["slices.overlaps[ostracon/spell.way]"], unfollowed := true, recurses := true, plainKeys := false, apart := false, narrowed := true }
def SpellBothUptoSaid : Prop := spellBothUptoRow.holds Tryz.pinned (OpenSpec.upto spellBothSpec)

/-- 'ostraconlaw07.SpellListed', WHERE WHAT IT READS IS OF BULK AT MOST 1048576: true; the input reads as it did. -/
def spellListedUptoRow : OpenClaim := { program := "ytbmcnieifibckaagreat", sum := "96be69bb45eba12cf53f50603eda148327e8b9a8bcae923231ea96d89a86e0bf", func := "ostracon/ostraconlaw07.SpellListed", spec := "spellListed", inPlace := ["slices.overlaps[ostracon/spell.way]"], unfollowed := true, recurses := true, plainKeys := false, apart := false, narrowed := true }
def SpellListedUptoSaid : Prop := spellListedUptoRow.holds Tryz.pinned (OpenSpec.upto spellListedSpec)

/-- 'ostraconlaw07.SpellLearns', WHERE WHAT IT READS IS OF BULK AT MOST 1048576: true; the input reads as it did. -/
def spellLearnsUptoRow : OpenClaim := { program := "ytbmcnieifibckaagreat", sum := "96be69bb45eba12cf53f50603eda148327e8b9a8bcae923231ea96d89a86e0bf", func := "ostracon/ostraconlaw07.SpellLearns", spec := "spellLearns", inPlace := ["slices.overlaps[ostracon/spell.way]", "slices.overlaps[ostracon/read.way]"], unfollowed := true, recurses := true, plainKeys := false, apart := false, narrowed := true }
def SpellLearnsUptoSaid : Prop := spellLearnsUptoRow.holds Tryz.pinned (OpenSpec.upto spellLearnsSpec)

/-- 'ostraconlaw07.SpellRespelt', WHERE WHAT IT READS IS OF BULK AT MOST 1048576: true; the input reads as it did. -/
def spellRespeltUptoRow : OpenClaim := { program := "ytbmcnieifibckaagreat", sum := "96be69bb45eba12cf53f50603eda148327e8b9a8bcae923231ea96d89a86e0bf", func := "ostracon/ostraconlaw07.SpellRespelt", spec := "spellRespelt", inPlace := ["slices.overlaps[ostracon/spell.way]", "slices.overlaps[ostracon/read.way]"], unfollowed := true, recurses := true, plainKeys := false, apart := false, narrowed := true }
def SpellRespeltUptoSaid : Prop := spellRespeltUptoRow.holds Tryz.pinned (OpenSpec.upto spellRespeltSpec)

/-- 'ostraconlaw07.SpellRewrites', WHERE WHAT IT READS IS OF BULK AT MOST 1048576: true; the input reads as it did. -/
def spellRewritesUptoRow : OpenClaim := { program := "ytbmcnieifibckaagreat", sum := "96be69bb45eba12cf53f50603eda148327e8b9a8bcae923231ea96d89a86e0bf", func := "ostracon/ostraconlaw07.SpellRewrites", spec := "spellRewrites", inPlace := ["slices.overlaps[ostracon/spell.way]", "slices.overlaps[ostracon/read.way]"], unfollowed := true, recurses := true, plainKeys := false, apart := false, narrowed := true }
def SpellRewritesUptoSaid : Prop := spellRewritesUptoRow.holds Tryz.pinned (OpenSpec.upto spellRewritesSpec)

/-- 'ostraconlaw07.SpellReadBack', WHERE WHAT IT READS IS OF BULK AT MOST 1048576: true; the input reads as it did. -/
def spellReadBackUptoRow : OpenClaim := { program := "ytbmcnieifibckaagreat", sum := "96be69bb45eba12cf53f50603eda148327e8b9a8bcae923231ea96d89a86e0bf", func := "ostracon/ostraconlaw07.SpellReadBack", spec := "spellReadBack", inPlace := ["slices.overlaps[ostracon/spell.way]", "slices.overlaps[ostracon/read.way]"], unfollowed := true, recurses := true, plainKeys := false, apart := false, narrowed := true }
def SpellReadBackUptoSaid : Prop := spellReadBackUptoRow.holds Tryz.pinned (OpenSpec.upto spellReadBackSpec)

/-- 'ostraconlaw07.SpellLearned', WHERE WHAT IT READS IS OF BULK AT MOST 1048576: true; the input reads as it did. -/
def spellLearnedUptoRow : OpenClaim := { program := "ytbmcnieifibckaagreat", sum := "96be69bb45eba12cf53f50603eda148327e8b9a8bcae923231ea96d89a86e0bf", func := "ostracon/ostraconlaw07.SpellLearned", spec := "spellLearned", inPlace := ["slices.overlaps[ostracon/spell.way]", "slices.overlaps[ostracon/read.way]"], unfollowed := true, recurses := true, plainKeys := false, apart := false, narrowed := true }
def SpellLearnedUptoSaid : Prop := spellLearnedUptoRow.holds Tryz.pinned (OpenSpec.upto spellLearnedSpec)

end Rows
end Go.Proofs.YtbmcnieifibckaaGreat
