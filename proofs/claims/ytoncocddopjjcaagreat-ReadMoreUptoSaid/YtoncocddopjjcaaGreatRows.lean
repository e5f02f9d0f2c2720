/-
  No cell of these rows narrows 'for every input' (looked for: loops, veiled, ifaces, maps, wideKeys, modest, calm, conditions, laid).
  DERIVED. THE GIVEN ROWS OF THIS SEAT. 15 by the template 'for every input the law returns true; each argument reads behind the call as it read before'; 0 by the template 'total and deterministic' (their statements: YtoncocddopjjcaaGreatTotals.lean).
  GIVEN WITH THE SEED: the statements are not yours to turn. If you find one false, say at which input.
  Laid BY PROGRAM, IN A SANDBOX (cutbox-rows.mjs): the forced cells as the released guide's own fill.sh prints them over the translation 4dcbf191808f9c7f… (all of the seat's roots in one cut). By AI agents, Wed Nov 11 2026. No macro, syntax, notation, axiom, sorry.
-/
import Derived.Test.YtoncocddopjjcaaGreatChecked
import GoSem.Claim
import GoSem.ClaimJoined
import GoSem.ClaimMapViews
import Derived.JoinedTies
import Derived.KernelRfl
namespace Go.Proofs.YtoncocddopjjcaaGreat
/- THE CELL 'sum', in the pinned program and in every row, IS THE sha256 OF THE DUMP (.gsa) THAT YtoncocddopjjcaaGreatProg.lean LOADS. Nothing in Lean hashes anything: it is a label: what it is worth is what the hold of that sum in a sandbox is worth. -/
noncomputable def Tryz.pinned : Pinned := { name := "ytoncocddopjjcaagreat", sum := "4dcbf191808f9c7f37d595489639675dfbf04cc414b9dfa3ff9ceabe6858ec15", checked := Tryz.checked }
namespace Rows
def none {H : Type} : Left H := { results := [], args := [] }

/-- 'ostraconlaw06.ReadHouses': WHATEVER THE INPUT: true; the input reads as it did. -/
def readHousesSpec : ChangeSpec := { name := "readHouses", fn := fun _ => fun
  | [d1, d2] => { results := [.lit (.bool true)], args := [d1, d2] }
  | _ => none }
def readHousesRow : OpenClaim := { program := "ytoncocddopjjcaagreat", sum := "4dcbf191808f9c7f37d595489639675dfbf04cc414b9dfa3ff9ceabe6858ec15", func := "ostracon/ostraconlaw06.ReadHouses", spec := "readHouses", inPlace := ["slices.overlaps[ostracon/read.way]"], unfollowed := true, recurses := true, apart := false }
def ReadHousesSaid : Prop := readHousesRow.holds Tryz.pinned (OpenSpec.ofChange readHousesSpec)

/-- ITS FALSE NEIGHBOUR: 'it returns false'. Refute it at one input. -/
def readHousesWrong : ChangeSpec := { name := "readHouses", fn := fun _ => fun
  | [d1, d2] => { results := [.lit (.bool false)], args := [d1, d2] }
  | _ => none }
def ReadHousesWrongFalsely : Prop := readHousesRow.holds Tryz.pinned (OpenSpec.ofChange readHousesWrong)

/-- 'ostraconlaw06.ReadWords': WHATEVER THE INPUT: true; the input reads as it did. -/
def readWordsSpec : ChangeSpec := { name := "readWords", fn := fun _ => fun
  | [d1, d2, d3] => { results := [.lit (.bool true)], args := [d1, d2, d3] }
  | _ => none }
def readWordsRow : OpenClaim := { program := "ytoncocddopjjcaagreat", sum := "4dcbf191808f9c7f37d595489639675dfbf04cc414b9dfa3ff9ceabe6858ec15", func := "ostracon/ostraconlaw06.ReadWords", spec := "readWords", inPlace := ["slices.overlaps[ostracon/read.way]"], unfollowed := true, recurses := true, apart := false }
def ReadWordsSaid : Prop := readWordsRow.holds Tryz.pinned (OpenSpec.ofChange readWordsSpec)

/-- ITS FALSE NEIGHBOUR: 'it returns false'. Refute it at one input. -/
def readWordsWrong : ChangeSpec := { name := "readWords", fn := fun _ => fun
  | [d1, d2, d3] => { results := [.lit (.bool false)], args := [d1, d2, d3] }
  | _ => none }
def ReadWordsWrongFalsely : Prop := readWordsRow.holds Tryz.pinned (OpenSpec.ofChange readWordsWrong)

/-- 'ostraconlaw06.ReadLists': WHATEVER THE INPUT: true; the input reads as it did. -/
def readListsSpec : ChangeSpec := { name := "readLists", fn := fun _ => fun
  | [d1, d2, d3] => { results := [.lit (.bool true)], args := [d1, d2, d3] }
  | _ => none }
def readListsRow : OpenClaim := { program := "ytoncocddopjjcaagreat", sum := "4dcbf191808f9c7f37d595489639675dfbf04cc414b9dfa3ff9ceabe6858ec15", func := "ostracon/ostraconlaw06.ReadLists", spec := "readLists", inPlace := ["slices.overlaps[ostracon/read.way]"], unfollowed := true, recurses := true, apart := false }
def ReadListsSaid : Prop := readListsRow.holds Tryz.pinned (OpenSpec.ofChange readListsSpec)

/-- ITS FALSE NEIGHBOUR: 'it returns false'. Refute it at one input. -/
def readListsWrong : ChangeSpec := { name := "readLists", fn := fun _ => fun
  | [d1, d2, d3] => { results := [.lit (.bool false)], args := [d1, d2, d3] }
  | _ => none }
def ReadListsWrongFalsely : Prop := readListsRow.holds Tryz.pinned (OpenSpec.ofChange readListsWrong)

/-- 'ostraconlaw06.ReadProves': WHATEVER THE INPUT: true; the input reads as it did. -/
def readProvesSpec : ChangeSpec := { name := "readProves", fn := fun _ => fun
  | [d1, d2, d3] => { results := [.lit (.bool true)], args := [d1, d2, d3] }
  | _ => none }
def readProvesRow : OpenClaim := { program := "ytoncocddopjjcaagreat", sum := "4dcbf191808f9c7f37d595489639675dfbf04cc414b9dfa3ff9ceabe6858ec15", func := "ostracon/ostraconlaw06.ReadProves", spec := "readProves", inPlace := ["slices.overlaps[ostracon/read.way]"], unfollowed := true, recurses := true, apart := false }
def ReadProvesSaid : Prop := readProvesRow.holds Tryz.pinned (OpenSpec.ofChange readProvesSpec)

/-- ITS FALSE NEIGHBOUR: 'it returns false'. Refute it at one input. -/
def readProvesWrong : ChangeSpec := { name := "readProves", fn := fun _ => fun
  | [d1, d2, d3] => { results := [.lit (.bool false)], args := [d1, d2, d3] }
  | _ => none }
def ReadProvesWrongFalsely : Prop := readProvesRow.holds Tryz.pinned (OpenSpec.ofChange readProvesWrong)

/-- 'ostraconlaw06.ReadCertificate': WHATEVER THE INPUT: true; the input reads as it did. -/
def readCertificateSpec : ChangeSpec := { name := "readCertificate", fn := fun _ => fun
  | [d1, d2, d3] => { results := [.lit (.bool true)], args := [d1, d2, d3] }
  | _ => none }
def readCertificateRow : OpenClaim := { program := "ytoncocddopjjcaagreat", sum := "4dcbf191808f9c7f37d595489639675dfbf04cc414b9dfa3ff9ceabe6858ec15", func := "ostracon/ostraconlaw06.ReadCertificate", spec := "readCertificate", inPlace := ["slices.overlaps[ostracon/read.way]"], unfollowed := true, recurses := true, apart := false }
def ReadCertificateSaid : Prop := readCertificateRow.holds Tryz.pinned (OpenSpec.ofChange readCertificateSpec)

/-- ITS FALSE NEIGHBOUR: 'it returns false'. Refute it at one input. -/
def readCertificateWrong : ChangeSpec := { name := "readCertificate", fn := fun _ => fun
  | [d1, d2, d3] => { results := [.lit (.bool false)], args := [d1, d2, d3] }
  | _ => none }
def ReadCertificateWrongFalsely : Prop := readCertificateRow.holds Tryz.pinned (OpenSpec.ofChange readCertificateWrong)

/-- 'ostraconlaw06.ReadSure': WHATEVER THE INPUT: true; the input reads as it did. -/
def readSureSpec : ChangeSpec := { name := "readSure", fn := fun _ => fun
  | [d] => { results := [.lit (.bool true)], args := [d] }
  | _ => none }
def readSureRow : OpenClaim := { program := "ytoncocddopjjcaagreat", sum := "4dcbf191808f9c7f37d595489639675dfbf04cc414b9dfa3ff9ceabe6858ec15", func := "ostracon/ostraconlaw06.ReadSure", spec := "readSure", inPlace := ["slices.overlaps[ostracon/read.way]"], unfollowed := true, recurses := true, apart := false }
def ReadSureSaid : Prop := readSureRow.holds Tryz.pinned (OpenSpec.ofChange readSureSpec)

/-- ITS FALSE NEIGHBOUR: 'it returns false'. Refute it at one input. -/
def readSureWrong : ChangeSpec := { name := "readSure", fn := fun _ => fun
  | [d] => { results := [.lit (.bool false)], args := [d] }
  | _ => none }
def ReadSureWrongFalsely : Prop := readSureRow.holds Tryz.pinned (OpenSpec.ofChange readSureWrong)

/-- 'ostraconlaw06.ReadPrices': WHATEVER THE INPUT: true; the input reads as it did. -/
def readPricesSpec : ChangeSpec := { name := "readPrices", fn := fun _ => fun
  | [d1, d2, d3] => { results := [.lit (.bool true)], args := [d1, d2, d3] }
  | _ => none }
def readPricesRow : OpenClaim := { program := "ytoncocddopjjcaagreat", sum := "4dcbf191808f9c7f37d595489639675dfbf04cc414b9dfa3ff9ceabe6858ec15", func := "ostracon/ostraconlaw06.ReadPrices", spec := "readPrices", inPlace := ["slices.overlaps[ostracon/read.way]"], unfollowed := true, recurses := true, apart := false }
def ReadPricesSaid : Prop := readPricesRow.holds Tryz.pinned (OpenSpec.ofChange readPricesSpec)

/-- ITS FALSE NEIGHBOUR: 'it returns false'. Refute it at one input. -/
def readPricesWrong : ChangeSpec := { name := "readPrices", fn := fun _ => fun
  | [d1, d2, d3] => { results := [.lit (.bool false)], args := [d1, d2, d3] }
  | _ => none }
def ReadPricesWrongFalsely : Prop := readPricesRow.holds Tryz.pinned (OpenSpec.ofChange readPricesWrong)

/-- 'ostraconlaw06.ReadValids': WHATEVER THE INPUT: true; the input reads as it did. -/
def readValidsSpec : ChangeSpec := { name := "readValids", fn := fun _ => fun
  | [d1, d2, d3] => { results := [.lit (.bool true)], args := [d1, d2, d3] }
  | _ => none }
def readValidsRow : OpenClaim := { program := "ytoncocddopjjcaagreat", sum := "4dcbf191808f9c7f37d595489639675dfbf04cc414b9dfa3ff9ceabe6858ec15", func := "ostracon/ostraconlaw06.ReadValids", spec := "readValids", inPlace := ["slices.overlaps[ostracon/read.way]"], unfollowed := true, recurses := true, apart := false }
def ReadValidsSaid : Prop := readValidsRow.holds Tryz.pinned (OpenSpec.ofChange readValidsSpec)

/-- ITS FALSE NEIGHBOUR: 'it returns false'. Refute it at one input. -/
def readValidsWrong : ChangeSpec := { name := "readValids", fn := fun _ => fun
  | [d1, d2, d3] => { results := [.lit (.bool false)], args := [d1, d2, d3] }
  | _ => none }
def ReadValidsWrongFalsely : Prop := readValidsRow.holds Tryz.pinned (OpenSpec.ofChange readValidsWrong)

/-- 'ostraconlaw06.ReadListed': WHATEVER THE INPUT: true; the input reads as it did. -/
def readListedSpec : ChangeSpec := { name := "readListed", fn := fun _ => fun
  | [d1, d2, d3] => { results := [.lit (.bool true)], args := [d1, d2, d3] }
  | _ => none }
def readListedRow : OpenClaim := { program := "ytoncocddopjjcaagreat", sum := "4dcbf191808f9c7f37d595489639675dfbf04cc414b9dfa3ff9ceabe6858ec15", func := "ostracon/ostraconlaw06.ReadListed", spec := "readListed", inPlace := ["slices.overlaps[ostracon/read.way]"], unfollowed := true, recurses := true, apart := false }
def ReadListedSaid : Prop := readListedRow.holds Tryz.pinned (OpenSpec.ofChange readListedSpec)

/-- ITS FALSE NEIGHBOUR: 'it returns false'. Refute it at one input. -/
def readListedWrong : ChangeSpec := { name := "readListed", fn := fun _ => fun
  | [d1, d2, d3] => { results := [.lit (.bool false)], args := [d1, d2, d3] }
  | _ => none }
def ReadListedWrongFalsely : Prop := readListedRow.holds Tryz.pinned (OpenSpec.ofChange readListedWrong)

/-- 'ostraconlaw06.ReadJoined': WHATEVER THE INPUT: true; the input reads as it did. -/
def readJoinedSpec : ChangeSpec := { name := "readJoined", fn := fun _ => fun
  | [d1, d2, d3] => { results := [.lit (.bool true)], args := [d1, d2, d3] }
  | _ => none }
def readJoinedRow : OpenClaim := { program := "ytoncocddopjjcaagreat", sum := "4dcbf191808f9c7f37d595489639675dfbf04cc414b9dfa3ff9ceabe6858ec15", func := "ostracon/ostraconlaw06.ReadJoined", spec := "readJoined", inPlace := ["slices.overlaps[ostracon/read.way]"], unfollowed := true, recurses := true, apart := false }
def ReadJoinedSaid : Prop := readJoinedRow.holds Tryz.pinned (OpenSpec.ofChange readJoinedSpec)

/-- ITS FALSE NEIGHBOUR: 'it returns false'. Refute it at one input. -/
def readJoinedWrong : ChangeSpec := { name := "readJoined", fn := fun _ => fun
  | [d1, d2, d3] => { results := [.lit (.bool false)], args := [d1, d2, d3] }
  | _ => none }
def ReadJoinedWrongFalsely : Prop := readJoinedRow.holds Tryz.pinned (OpenSpec.ofChange readJoinedWrong)

/-- 'ostraconlaw06.ReadMore': WHATEVER THE INPUT: true; the input reads as it did. -/
def readMoreSpec : ChangeSpec := { name := "readMore", fn := fun _ => fun
  | [d1, d2, d3] => { results := [.lit (.bool true)], args := [d1, d2, d3] }
  | _ => none }
def readMoreRow : OpenClaim := { program := "ytoncocddopjjcaagreat", sum := "4dcbf191808f9c7f37d595489639675dfbf04cc414b9dfa3ff9ceabe6858ec15", func := "ostracon/ostraconlaw06.ReadMore", spec := "readMore", inPlace := ["slices.overlaps[ostracon/read.way]"], unfollowed := true, recurses := true, apart := false }
def ReadMoreSaid : Prop := readMoreRow.holds Tryz.pinned (OpenSpec.ofChange readMoreSpec)

/-- ITS FALSE NEIGHBOUR: 'it returns false'. Refute it at one input. -/
def readMoreWrong : ChangeSpec := { name := "readMore", fn := fun _ => fun
  | [d1, d2, d3] => { results := [.lit (.bool false)], args := [d1, d2, d3] }
  | _ => none }
def ReadMoreWrongFalsely : Prop := readMoreRow.holds Tryz.pinned (OpenSpec.ofChange readMoreWrong)

/-- 'ostraconlaw06.ReadForests': WHATEVER THE INPUT: true; the input reads as it did. -/
def readForestsSpec : ChangeSpec := { name := "readForests", fn := fun _ => fun
  | [d1, d2] => { results := [.lit (.bool true)], args := [d1, d2] }
  | _ => none }
def readForestsRow : OpenClaim := { program := "ytoncocddopjjcaagreat", sum := "4dcbf191808f9c7f37d595489639675dfbf04cc414b9dfa3ff9ceabe6858ec15", func := "ostracon/ostraconlaw06.ReadForests", spec := "readForests", inPlace := ["slices.overlaps[ostracon/read.way]"], unfollowed := true, recurses := true, apart := false }
def ReadForestsSaid : Prop := readForestsRow.holds Tryz.pinned (OpenSpec.ofChange readForestsSpec)

/-- ITS FALSE NEIGHBOUR: 'it returns false'. Refute it at one input. -/
def readForestsWrong : ChangeSpec := { name := "readForests", fn := fun _ => fun
  | [d1, d2] => { results := [.lit (.bool false)], args := [d1, d2] }
  | _ => none }
def ReadForestsWrongFalsely : Prop := readForestsRow.holds Tryz.pinned (OpenSpec.ofChange readForestsWrong)

/-- 'ostraconlaw06.ReadForested': WHATEVER THE INPUT: true; the input reads as it did. -/
def readForestedSpec : ChangeSpec := { name := "readForested", fn := fun _ => fun
  | [d] => { results := [.lit (.bool true)], args := [d] }
  | _ => none }
def readForestedRow : OpenClaim := { program := "ytoncocddopjjcaagreat", sum := "4dcbf191808f9c7f37d595489639675dfbf04cc414b9dfa3ff9ceabe6858ec15", func := "ostracon/ostraconlaw06.ReadForested", spec := "readForested", inPlace := ["slices.overlaps[ostracon/read.way]"], unfollowed := true, recurses := true, apart := false }
def ReadForestedSaid : Prop := readForestedRow.holds Tryz.pinned (OpenSpec.ofChange readForestedSpec)

/-- ITS FALSE NEIGHBOUR: 'it returns false'. Refute it at one input. -/
def readForestedWrong : ChangeSpec := { name := "readForested", fn := fun _ => fun
  | [d] => { results := [.lit (.bool false)], args := [d] }
  | _ => none }
def ReadForestedWrongFalsely : Prop := readForestedRow.holds Tryz.pinned (OpenSpec.ofChange readForestedWrong)

/-- 'ostraconlaw06.ReadTexts': WHATEVER THE INPUT: true; the input reads as it did. -/
def readTextsSpec : ChangeSpec := { name := "readTexts", fn := fun _ => fun
  | [d1, d2] => { results := [.lit (.bool true)], args := [d1, d2] }
  | _ => none }
def readTextsRow : OpenClaim := { program := "ytoncocddopjjcaagreat", sum := "4dcbf191808f9c7f37d595489639675dfbf04cc414b9dfa3ff9ceabe6858ec15", func := "ostracon/ostraconlaw06.ReadTexts", spec := "readTexts", inPlace := ["slices.overlaps[ostracon/read.way]", "internal/abi.NoEscape", "internal/bytealg.MakeNoZero"], unfollowed := true, recurses := true, apart := false }
def ReadTextsSaid : Prop := readTextsRow.holds Tryz.pinned (OpenSpec.ofChange readTextsSpec)

/-- ITS FALSE NEIGHBOUR: 'it returns false'. Refute it at one input. -/
def readTextsWrong : ChangeSpec := { name := "readTexts", fn := fun _ => fun
  | [d1, d2] => { results := [.lit (.bool false)], args := [d1, d2] }
  | _ => none }
def ReadTextsWrongFalsely : Prop := readTextsRow.holds Tryz.pinned (OpenSpec.ofChange readTextsWrong)

/-- 'ostraconlaw06.ReadReaches': WHATEVER THE INPUT: true; the input reads as it did. -/
def readReachesSpec : ChangeSpec := { name := "readReaches", fn := fun _ => fun
  | [d1, d2] => { results := [.lit (.bool true)], args := [d1, d2] }
  | _ => none }
def readReachesRow : OpenClaim := { program := "ytoncocddopjjcaagreat", sum := "4dcbf191808f9c7f37d595489639675dfbf04cc414b9dfa3ff9ceabe6858ec15", func := "ostracon/ostraconlaw06.ReadReaches", spec := "readReaches", inPlace := ["slices.overlaps[ostracon/read.way]", "internal/abi.NoEscape", "internal/bytealg.MakeNoZero"], unfollowed := true, recurses := true, apart := false }
def ReadReachesSaid : Prop := readReachesRow.holds Tryz.pinned (OpenSpec.ofChange readReachesSpec)

/-- ITS FALSE NEIGHBOUR: 'it returns false'. Refute it at one input. -/
def readReachesWrong : ChangeSpec := { name := "readReaches", fn := fun _ => fun
  | [d1, d2] => { results := [.lit (.bool false)], args := [d1, d2] }
  | _ => none }
def ReadReachesWrongFalsely : Prop := readReachesRow.holds Tryz.pinned (OpenSpec.ofChange readReachesWrong)

/- THE SECOND FORM. 'bulk': how many values and letters a reading holds, each counted each time it is reached (what is shared counts as often as it is met; a slice's spare places count too). A statement '..UptoSaid' is the law's where the arguments, and the package variables that the reading takes, are together of bulk at most 1048576: NARROWER than '..Said'. Prove '..Said' where nothing that the law and all that it calls make is longer than what came in: it says more and counts as full. Else prove '..UptoSaid'. A law counts once. -/
mutual
def uptoBulk {H : Type} : DataW H → Nat
  | .lit (.string bytes) => bytes.length + 1
  | .lit _ => 1
  | .nil => 1
  | .ptr d => uptoBulk d + 1
  | .slice elems spare => uptoBulkAll elems + uptoBulkAll spare + 1
  | .agg parts => uptoBulkAll parts + 1
  | .iface _ d => uptoBulk d + 1
  | .map entries => uptoBulkEntries entries + 1
  | .held _ => 1
def uptoBulkAll {H : Type} : List (DataW H) → Nat
  | [] => 0
  | d :: r => uptoBulk d + uptoBulkAll r
def uptoBulkEntries {H : Type} : List (Lit × DataW H) → Nat
  | [] => 0
  | x :: r => uptoBulkEntry x + uptoBulkEntries r
def uptoBulkEntry {H : Type} : Lit × DataW H → Nat
  | (.string bytes, d) => bytes.length + uptoBulk d + 1
  | (_, d) => uptoBulk d + 1
 end
def uptoSmall : (H : Type) → List (DataW H) → Bool := fun _ ds => decide (uptoBulkAll ds ≤ 1048576)
def OpenSpec.upto (s : _root_.Go.ChangeSpec) : _root_.Go.OpenSpec := { _root_.Go.OpenSpec.ofChange s with cond := some uptoSmall }

/-- 'ostraconlaw06.ReadHouses', WHERE WHAT IT READS IS OF BULK AT MOST 1048576: true; the input reads as it did. -/
def readHousesUptoRow : OpenClaim := { program := "ytoncocddopjjcaagreat", sum := "4dcbf191808f9c7f37d595489639675dfbf04cc414b9dfa3ff9ceabe6858ec15", func := "ostracon/ostraconlaw06.ReadHouses", spec := "readHouses", inPlace := ["slices.overlaps[ostracon/read.way]"], unfollowed := true, recurses := true, apart := false, narrowed := true }
def ReadHousesUptoSaid : Prop := readHousesUptoRow.holds Tryz.pinned (OpenSpec.upto readHousesSpec)

/-- 'ostraconlaw06.ReadWords', WHERE WHAT IT READS IS OF BULK AT MOST 1048576: true; the input reads as it did. -/
def readWordsUptoRow : OpenClaim := { program := "ytoncocddopjjcaagreat", sum := "4dcbf191808f9c7f37d595489639675dfbf04cc414b9dfa3ff9ceabe6858ec15", func := "ostracon/ostraconlaw06.ReadWords", spec := "readWords", inPlace := ["slices.overlaps[ostracon/read.way]"], unfollowed := true, recurses := true, apart := false, narrowed := true }
def ReadWordsUptoSaid : Prop := readWordsUptoRow.holds Tryz.pinned (OpenSpec.upto readWordsSpec)

/-- 'ostraconlaw06.ReadLists', WHERE WHAT IT READS IS OF BULK AT MOST 1048576: true; the input reads as it did. -/
def readListsUptoRow : OpenClaim := { program := "ytoncocddopjjcaagreat", sum := "4dcbf191808f9c7f37d595489639675dfbf04cc414b9dfa3ff9ceabe6858ec15", func := "ostracon/ostraconlaw06.ReadLists", spec := "readLists", inPlace := ["slices.overlaps[ostracon/read.way]"], unfollowed := true, recurses := true, apart := false, narrowed := true }
def ReadListsUptoSaid : Prop := readListsUptoRow.holds Tryz.pinned (OpenSpec.upto readListsSpec)

/-- 'ostraconlaw06.ReadProves', WHERE WHAT IT READS IS OF BULK AT MOST 1048576: true; the input reads as it did. -/
def readProvesUptoRow : OpenClaim := { program := "ytoncocddopjjcaagreat", sum := "4dcbf191808f9c7f37d595489639675dfbf04cc414b9dfa3ff9ceabe6858ec15", func := "ostracon/ostraconlaw06.ReadProves", spec := "readProves", inPlace := ["slices.overlaps[ostracon/read.way]"], unfollowed := true, recurses := true, apart := false, narrowed := true }
def ReadProvesUptoSaid : Prop := readProvesUptoRow.holds Tryz.pinned (OpenSpec.upto readProvesSpec)

/-- 'ostraconlaw06.ReadCertificate', WHERE WHAT IT READS IS OF BULK AT MOST 1048576: true; the input reads as it did. -/
def readCertificateUptoRow : OpenClaim := { program := "ytoncocddopjjcaagreat", sum := "4dcbf191808f9c7f37d595489639675dfbf04cc414b9dfa3ff9ceabe6858ec15", func := "ostracon/ostraconlaw06.ReadCertificate", spec := "readCertificate", inPlace := ["slices.overlaps[ostracon/read.way]"], unfollowed := true, recurses := true, apart := false, narrowed := true }
def ReadCertificateUptoSaid : Prop := readCertificateUptoRow.holds Tryz.pinned (OpenSpec.upto readCertificateSpec)

/-- 'ostraconlaw06.ReadSure', WHERE WHAT IT READS IS OF BULK AT MOST 1048576: true; the input reads as it did. -/
def readSureUptoRow : OpenClaim := { program := "ytoncocddopjjcaagreat", sum := "4dcbf191808f9c7f37d595489639675dfbf04cc414b9dfa3ff9ceabe6858ec15", func := "ostracon/ostraconlaw06.ReadSure", spec := "readSure", inPlace := ["slices.overlaps[ostracon/read.way]"], unfollowed := true, recurses := true, apart := false, narrowed := true }
def ReadSureUptoSaid : Prop := readSureUptoRow.holds Tryz.pinned (OpenSpec.upto readSureSpec)

/-- 'ostraconlaw06.ReadPrices', WHERE WHAT IT READS IS OF BULK AT MOST 1048576: true; the input reads as it did. -/
def readPricesUptoRow : OpenClaim := { program := "ytoncocddopjjcaagreat", sum := "4dcbf191808f9c7f37d595489639675dfbf04cc414b9dfa3ff9ceabe6858ec15", func := "ostracon/ostraconlaw06.ReadPrices", spec := "readPrices", inPlace := ["slices.overlaps[ostracon/read.way]"], unfollowed := true, recurses := true, apart := false, narrowed := true }
def ReadPricesUptoSaid : Prop := readPricesUptoRow.holds Tryz.pinned (OpenSpec.upto readPricesSpec)

/-- 'ostraconlaw06.ReadValids', WHERE WHAT IT READS IS OF BULK AT MOST 1048576: true; the input reads as it did. -/
def readValidsUptoRow : OpenClaim := { program := "ytoncocddopjjcaagreat", sum := "4dcbf191808f9c7f37d595489639675dfbf04cc414b9dfa3ff9ceabe6858ec15", func := "ostracon/ostraconlaw06.ReadValids", spec := "readValids", inPlace := ["slices.overlaps[ostracon/read.way]"], unfollowed := true, recurses := true, apart := false, narrowed := true }
def ReadValidsUptoSaid : Prop := readValidsUptoRow.holds Tryz.pinned (OpenSpec.upto readValidsSpec)

/-- 'ostraconlaw06.ReadListed', WHERE WHAT IT READS IS OF BULK AT MOST 1048576: true; the input reads as it did. -/
def readListedUptoRow : OpenClaim := { program := "ytoncocddopjjcaagreat", sum := "4dcbf191808f9c7f37d595489639675dfbf04cc414b9dfa3ff9ceabe6858ec15", func := "ostracon/ostraconlaw06.ReadListed", spec := "readListed", inPlace := ["slices.overlaps[ostracon/read.way]"], unfollowed := true, recurses := true, apart := false, narrowed := true }
def ReadListedUptoSaid : Prop := readListedUptoRow.holds Tryz.pinned (OpenSpec.upto readListedSpec)

/-- 'ostraconlaw06.ReadJoined', WHERE WHAT IT READS IS OF BULK AT MOST 1048576: true; the input reads as it did. -/
def readJoinedUptoRow : OpenClaim := { program := "ytoncocddopjjcaagreat", sum := "4dcbf191808f9c7f37d595489639675dfbf04cc414b9dfa3ff9ceabe6858ec15", func := "ostracon/ostraconlaw06.ReadJoined", spec := "readJoined", inPlace := ["slices.overlaps[ostracon/read.way]"], unfollowed := true, recurses := true, apart := false, narrowed := true }
def ReadJoinedUptoSaid : Prop := readJoinedUptoRow.holds Tryz.pinned (OpenSpec.upto readJoinedSpec)

/-- 'ostraconlaw06.ReadMore', WHERE WHAT IT READS IS OF BULK AT MOST 1048576: true; the input reads as it did. -/
def readMoreUptoRow : OpenClaim := { program := "ytoncocddopjjcaagreat", sum := "4dcbf191808f9c7f37d595489639675dfbf04cc414b9dfa3ff9ceabe6858ec15", func := "ostracon/ostraconlaw06.ReadMore", spec := "readMore", inPlace := ["slices.overlaps[ostracon/read.way]"], unfollowed := true, recurses := true, apart := false, narrowed := true }
def ReadMoreUptoSaid : Prop := readMoreUptoRow.holds Tryz.pinned (OpenSpec.upto readMoreSpec)

/-- 'ostraconlaw06.ReadForests', WHERE WHAT IT READS IS OF BULK AT MOST 1048576: true; the input reads as it did. -/
def readForestsUptoRow : OpenClaim := { program := "ytoncocddopjjcaagreat", sum := "4dcbf191808f9c7f37d595489639675dfbf04cc414b9dfa3ff9ceabe6858ec15", func := "ostracon/ostraconlaw06.ReadForests", spec := "readForests", inPlace := ["slices.overlaps[ostracon/read.way]"], unfollowed := true, recurses := true, apart := false, narrowed := true }
def ReadForestsUptoSaid : Prop := readForestsUptoRow.holds Tryz.pinned (OpenSpec.upto readForestsSpec)

/-- 'ostraconlaw06.ReadForested', WHERE WHAT IT READS IS OF BULK AT MOST 1048576: true; the input reads as it did. -/
def readForestedUptoRow : OpenClaim := { program := "ytoncocddopjjcaagreat", sum := "4dcbf191808f9c7f37d595489639675dfbf04cc414b9dfa3ff9ceabe6858ec15", func := "ostracon/ostraconlaw06.ReadForested", spec := "readForested", inPlace := ["slices.overlaps[ostracon/read.way]"], unfollowed := true, recurses := true, apart := false, narrowed := true }
def ReadForestedUptoSaid : Prop := readForestedUptoRow.holds Tryz.pinned (OpenSpec.upto readForestedSpec)

/-- 'ostraconlaw06.ReadTexts', WHERE WHAT IT READS IS OF BULK AT MOST 1048576: true; the input reads as it did. -/
def readTextsUptoRow : OpenClaim := { program := "ytoncocddopjjcaagreat", sum := "4dcbf191808f9c7f37d595489639675dfbf04cc414b9dfa3ff9ceabe6858ec15", func := "ostracon/ostraconlaw06.ReadTexts", spec := "readTexts", inPlace := ["slices.overlaps[ostracon/read.way]", "internal/abi.NoEscape", "internal/bytealg.MakeNoZero"], unfollowed := true, recurses := true, apart := false, narrowed := true }
def ReadTextsUptoSaid : Prop := readTextsUptoRow.holds Tryz.pinned (OpenSpec.upto readTextsSpec)

/-- 'ostraconlaw06.ReadReaches', WHERE WHAT IT READS IS OF BULK AT MOST 1048576: true; the input reads as it did. -/
def readReachesUptoRow : OpenClaim := { program := "ytoncocddopjjcaagreat", sum := "4dcbf191808f9c7f37d595489639675dfbf04cc414b9dfa3ff9ceabe6858ec15", func := "ostracon/ostraconlaw06.ReadReaches", spec := "readReaches", inPlace := ["slices.overlaps[ostracon/read.way]", "internal/abi.NoEscape", "internal/bytealg.MakeNoZero"], unfollowed := true, recurses := true, apart := false, narrowed := true }
def ReadReachesUptoSaid : Prop := readReachesUptoRow.holds Tryz.pinned (OpenSpec.upto readReachesSpec)

end Rows
end Go.Proofs.YtoncocddopjjcaaGreat
