/-
  DERIVED. GIVEN WITH THE SEED: THE CARDS: each row of YtmkmflcemegikaaGreatDoorRows.lean that lists a variable, with what it lists TIED to the program's text (the seventh form; the later family's looks); each row that meets fmt, with fmt's text TOLD by the authors' own Lean function (tested against real Go, not proved from fmt's source: count such statements apart). THE CARD IS WHAT COUNTS. Prove the row's statement (the work); the ties are given (YtmkmflcemegikaaGreatDoorTie.lean); close each card by the builder's one call (the guide's Derived/Test/ToyasCard.lean, 'card_holds'). Laid BY PROGRAM, IN A SANDBOX (cutbox-door.mjs). By AI agents, Wed Nov 11 2026. No macro, syntax, notation, axiom, sorry.
-/
import Derived.Test.YtmkmflcemegikaaGreatDoorRows
import GoSem.ClaimSeven
namespace Go.Proofs.YtmkmflcemegikaaGreatDoor
namespace Rows

/-- THE TIED CARD OF 'ostraconlaw10.InduceReports'. -/
def induceReportsCard : Claim7 := { stood := { row := induceReportsRow, standIns := [], harness := (true, "942e4416cd2d831760c3c57f46af111bc20500a50908e31759c977269c73b891"), looks := false }, kinds := [], alts := [], laidByText := true, laidKinds := [.data, .data, .data], laidTests := true, laidLooks := .later }
def InduceReportsCardSaid : Prop := Claim7.holds Tryz.pinned (.plain (OpenSpec.ofChange induceReportsSpec)) induceReportsCard

/-- THE SECOND FORM's CARD OF 'ostraconlaw10.InduceReports'. -/
def induceReportsUptoCard : Claim7 := { stood := { row := induceReportsUptoRow, standIns := [], harness := (true, "942e4416cd2d831760c3c57f46af111bc20500a50908e31759c977269c73b891"), looks := false }, kinds := [], alts := [], laidByText := true, laidKinds := [.data, .data, .data], laidTests := true, laidLooks := .later }
def InduceReportsUptoCardSaid : Prop := Claim7.holds Tryz.pinned (.plain (OpenSpec.upto induceReportsSpec)) induceReportsUptoCard
end Rows
end Go.Proofs.YtmkmflcemegikaaGreatDoor
