/-
  DERIVED. GIVEN WITH THE SEED: THE CARDS: each row of YtmhchakjkgdpmaaGreatDoorRows.lean that lists a variable, with what it lists TIED to the program's text (the seventh form; the later family's looks); each row that meets fmt, with fmt's text TOLD by the authors' own Lean function (tested against real Go, not proved from fmt's source: count such statements apart). THE CARD IS WHAT COUNTS. Prove the row's statement (the work); the ties are given (YtmhchakjkgdpmaaGreatDoorTie.lean); close each card by the builder's one call (the guide's Derived/Test/ToyasCard.lean, 'card_holds'). Laid BY PROGRAM, IN A SANDBOX (cutbox-door.mjs). By AI agents, Wed Nov 11 2026. No macro, syntax, notation, axiom, sorry.
-/
import Derived.Test.YtmhchakjkgdpmaaGreatDoorRows
import GoSem.ClaimSeven
namespace Go.Proofs.YtmhchakjkgdpmaaGreatDoor
namespace Rows

/-- THE TIED CARD OF 'deedboxlaw3.TxnLoses'. -/
def txnLosesCard : Claim7 := { stood := { row := txnLosesRow, standIns := [], harness := (true, "3db5b08670a3d46b493088a70af95d007a39e4e467cb183e1ddb1d90931fed18"), looks := true }, kinds := [], alts := [], laidByText := true, laidKinds := [.data, .data, .data, .data, .sentinel, .sentinel, .sentinel, .sentinel, .sentinel, .sentinel, .sentinel, .sentinel, .sentinel, .sentinel, .pinned], laidTests := true, laidLooks := .later }
def TxnLosesCardSaid : Prop := Claim7.holds Tryz.pinned (.plain (OpenSpec.ofChange txnLosesSpec)) txnLosesCard

/-- THE TIED CARD OF 'deedboxlaw3.TxnTells'. -/
def txnTellsCard : Claim7 := { stood := { row := txnTellsRow, standIns := [], harness := (true, "3db5b08670a3d46b493088a70af95d007a39e4e467cb183e1ddb1d90931fed18"), looks := true }, kinds := [], alts := [], laidByText := true, laidKinds := [.data, .data, .data, .data, .handle, .sentinel, .sentinel, .sentinel, .sentinel, .sentinel, .sentinel, .sentinel, .sentinel, .sentinel, .sentinel, .sentinel, .sentinel, .sentinel, .sentinel, .pinned], laidTests := true, laidLooks := .later }
def TxnTellsCardSaid : Prop := Claim7.holds Tryz.pinned (.plain (OpenSpec.ofChange txnTellsSpec)) txnTellsCard

/-- THE TIED CARD OF 'deedboxlaw3.PackKeeps'. -/
def packKeepsCard : Claim7 := { stood := { row := packKeepsRow, standIns := [], harness := (true, "3db5b08670a3d46b493088a70af95d007a39e4e467cb183e1ddb1d90931fed18"), looks := true }, kinds := [], alts := [], laidByText := true, laidKinds := [.data, .data, .data, .data, .sentinel, .sentinel, .sentinel, .sentinel, .sentinel, .sentinel, .sentinel, .sentinel, .sentinel, .sentinel, .sentinel, .sentinel, .sentinel, .pinned], laidTests := true, laidLooks := .later }
def PackKeepsCardSaid : Prop := Claim7.holds Tryz.pinned (.plain (OpenSpec.ofChange packKeepsSpec)) packKeepsCard

/-- THE TIED CARD OF 'deedboxlaw3.PackIdles'. -/
def packIdlesCard : Claim7 := { stood := { row := packIdlesRow, standIns := [], harness := (true, "3db5b08670a3d46b493088a70af95d007a39e4e467cb183e1ddb1d90931fed18"), looks := true }, kinds := [], alts := [], laidByText := true, laidKinds := [.data, .data, .data, .data, .sentinel, .sentinel, .sentinel, .sentinel, .sentinel, .sentinel, .sentinel, .sentinel, .sentinel, .sentinel, .sentinel, .sentinel, .sentinel, .pinned], laidTests := true, laidLooks := .later }
def PackIdlesCardSaid : Prop := Claim7.holds Tryz.pinned (.plain (OpenSpec.ofChange packIdlesSpec)) packIdlesCard

/-- THE TIED CARD OF 'deedboxlaw3.PackTells'. -/
def packTellsCard : Claim7 := { stood := { row := packTellsRow, standIns := [], harness := (true, "3db5b08670a3d46b493088a70af95d007a39e4e467cb183e1ddb1d90931fed18"), looks := true }, kinds := [], alts := [], laidByText := true, laidKinds := [.data, .data, .data, .data, .handle, .sentinel, .sentinel, .sentinel, .sentinel, .sentinel, .sentinel, .sentinel, .sentinel, .sentinel, .sentinel, .sentinel, .sentinel, .sentinel, .sentinel, .pinned], laidTests := true, laidLooks := .later }
def PackTellsCardSaid : Prop := Claim7.holds Tryz.pinned (.plain (OpenSpec.ofChange packTellsSpec)) packTellsCard

/-- THE TIED CARD OF 'deedboxlaw3.ScanDeletes'. -/
def scanDeletesCard : Claim7 := { stood := { row := scanDeletesRow, standIns := [], harness := (true, "3db5b08670a3d46b493088a70af95d007a39e4e467cb183e1ddb1d90931fed18"), looks := true }, kinds := [], alts := [], laidByText := true, laidKinds := [.data, .data, .data, .data, .sentinel, .sentinel, .sentinel, .sentinel, .sentinel, .sentinel, .sentinel, .sentinel, .sentinel, .sentinel, .sentinel, .sentinel, .sentinel, .pinned], laidTests := true, laidLooks := .later }
def ScanDeletesCardSaid : Prop := Claim7.holds Tryz.pinned (.plain (OpenSpec.ofChange scanDeletesSpec)) scanDeletesCard

/-- THE TIED CARD OF 'deedboxlaw3.ScanPrunes'. -/
def scanPrunesCard : Claim7 := { stood := { row := scanPrunesRow, standIns := [], harness := (true, "3db5b08670a3d46b493088a70af95d007a39e4e467cb183e1ddb1d90931fed18"), looks := true }, kinds := [], alts := [], laidByText := true, laidKinds := [.data, .data, .data, .data, .sentinel, .sentinel, .sentinel, .sentinel, .sentinel, .sentinel, .sentinel, .sentinel, .sentinel, .sentinel, .sentinel, .sentinel, .sentinel, .pinned], laidTests := true, laidLooks := .later }
def ScanPrunesCardSaid : Prop := Claim7.holds Tryz.pinned (.plain (OpenSpec.ofChange scanPrunesSpec)) scanPrunesCard

/-- THE TIED CARD OF 'deedboxlaw3.ScanTells'. -/
def scanTellsCard : Claim7 := { stood := { row := scanTellsRow, standIns := [], harness := (true, "3db5b08670a3d46b493088a70af95d007a39e4e467cb183e1ddb1d90931fed18"), looks := true }, kinds := [], alts := [], laidByText := true, laidKinds := [.data, .data, .data, .data, .handle, .sentinel, .sentinel, .sentinel, .sentinel, .sentinel, .sentinel, .sentinel, .sentinel, .sentinel, .sentinel, .sentinel, .sentinel, .sentinel, .sentinel, .pinned], laidTests := true, laidLooks := .later }
def ScanTellsCardSaid : Prop := Claim7.holds Tryz.pinned (.plain (OpenSpec.ofChange scanTellsSpec)) scanTellsCard

/-- THE SECOND FORM's CARD OF 'deedboxlaw3.TxnLoses'. -/
def txnLosesUptoCard : Claim7 := { stood := { row := txnLosesUptoRow, standIns := [], harness := (true, "3db5b08670a3d46b493088a70af95d007a39e4e467cb183e1ddb1d90931fed18"), looks := true }, kinds := [], alts := [], laidByText := true, laidKinds := [.data, .data, .data, .data, .sentinel, .sentinel, .sentinel, .sentinel, .sentinel, .sentinel, .sentinel, .sentinel, .sentinel, .sentinel, .pinned], laidTests := true, laidLooks := .later }
def TxnLosesUptoCardSaid : Prop := Claim7.holds Tryz.pinned (.plain (OpenSpec.upto txnLosesSpec)) txnLosesUptoCard

/-- THE SECOND FORM's CARD OF 'deedboxlaw3.TxnTells'. -/
def txnTellsUptoCard : Claim7 := { stood := { row := txnTellsUptoRow, standIns := [], harness := (true, "3db5b08670a3d46b493088a70af95d007a39e4e467cb183e1ddb1d90931fed18"), looks := true }, kinds := [], alts := [], laidByText := true, laidKinds := [.data, .data, .data, .data, .handle, .sentinel, .sentinel, .sentinel, .sentinel, .sentinel, .sentinel, .sentinel, .sentinel, .sentinel, .sentinel, .sentinel, .sentinel, .sentinel, .sentinel, .pinned], laidTests := true, laidLooks := .later }
def TxnTellsUptoCardSaid : Prop := Claim7.holds Tryz.pinned (.plain (OpenSpec.upto txnTellsSpec)) txnTellsUptoCard

/-- THE SECOND FORM's CARD OF 'deedboxlaw3.PackKeeps'. -/
def packKeepsUptoCard : Claim7 := { stood := { row := packKeepsUptoRow, standIns := [], harness := (true, "3db5b08670a3d46b493088a70af95d007a39e4e467cb183e1ddb1d90931fed18"), looks := true }, kinds := [], alts := [], laidByText := true, laidKinds := [.data, .data, .data, .data, .sentinel, .sentinel, .sentinel, .sentinel, .sentinel, .sentinel, .sentinel, .sentinel, .sentinel, .sentinel, .sentinel, .sentinel, .sentinel, .pinned], laidTests := true, laidLooks := .later }
def PackKeepsUptoCardSaid : Prop := Claim7.holds Tryz.pinned (.plain (OpenSpec.upto packKeepsSpec)) packKeepsUptoCard

/-- THE SECOND FORM's CARD OF 'deedboxlaw3.PackIdles'. -/
def packIdlesUptoCard : Claim7 := { stood := { row := packIdlesUptoRow, standIns := [], harness := (true, "3db5b08670a3d46b493088a70af95d007a39e4e467cb183e1ddb1d90931fed18"), looks := true }, kinds := [], alts := [], laidByText := true, laidKinds := [.data, .data, .data, .data, .sentinel, .sentinel, .sentinel, .sentinel, .sentinel, .sentinel, .sentinel, .sentinel, .sentinel, .sentinel, .sentinel, .sentinel, .sentinel, .pinned], laidTests := true, laidLooks := .later }
def PackIdlesUptoCardSaid : Prop := Claim7.holds Tryz.pinned (.plain (OpenSpec.upto packIdlesSpec)) packIdlesUptoCard

/-- THE SECOND FORM's CARD OF 'deedboxlaw3.PackTells'. -/
def packTellsUptoCard : Claim7 := { stood := { row := packTellsUptoRow, standIns := [], harness := (true, "3db5b08670a3d46b493088a70af95d007a39e4e467cb183e1ddb1d90931fed18"), looks := true }, kinds := [], alts := [], laidByText := true, laidKinds := [.data, .data, .data, .data, .handle, .sentinel, .sentinel, .sentinel, .sentinel, .sentinel, .sentinel, .sentinel, .sentinel, .sentinel, .sentinel, .sentinel, .sentinel, .sentinel, .sentinel, .pinned], laidTests := true, laidLooks := .later }
def PackTellsUptoCardSaid : Prop := Claim7.holds Tryz.pinned (.plain (OpenSpec.upto packTellsSpec)) packTellsUptoCard

/-- THE SECOND FORM's CARD OF 'deedboxlaw3.ScanDeletes'. -/
def scanDeletesUptoCard : Claim7 := { stood := { row := scanDeletesUptoRow, standIns := [], harness := (true, "3db5b08670a3d46b493088a70af95d007a39e4e467cb183e1ddb1d90931fed18"), looks := true }, kinds := [], alts := [], laidByText := true, laidKinds := [.data, .data, .data, .data, .sentinel, .sentinel, .sentinel, .sentinel, .sentinel, .sentinel, .sentinel, .sentinel, .sentinel, .sentinel, .sentinel, .sentinel, .sentinel, .pinned], laidTests := true, laidLooks := .later }
def ScanDeletesUptoCardSaid : Prop := Claim7.holds Tryz.pinned (.plain (OpenSpec.upto scanDeletesSpec)) scanDeletesUptoCard

/-- THE SECOND FORM's CARD OF 'deedboxlaw3.ScanPrunes'. -/
def scanPrunesUptoCard : Claim7 := { stood := { row := scanPrunesUptoRow, standIns := [], harness := (true, "3db5b08670a3d46b493088a70af95d007a39e4e467cb183e1ddb1d90931fed18"), looks := true }, kinds := [], alts := [], laidByText := true, laidKinds := [.data, .data, .data, .data, .sentinel, .sentinel, .sentinel, .sentinel, .sentinel, .sentinel, .sentinel, .sentinel, .sentinel, .sentinel, .sentinel, .sentinel, .sentinel, .pinned], laidTests := true, laidLooks := .later }
def ScanPrunesUptoCardSaid : Prop := Claim7.holds Tryz.pinned (.plain (OpenSpec.upto scanPrunesSpec)) scanPrunesUptoCard

/-- THE SECOND FORM's CARD OF 'deedboxlaw3.ScanTells'. -/
def scanTellsUptoCard : Claim7 := { stood := { row := scanTellsUptoRow, standIns := [], harness := (true, "3db5b08670a3d46b493088a70af95d007a39e4e467cb183e1ddb1d90931fed18"), looks := true }, kinds := [], alts := [], laidByText := true, laidKinds := [.data, .data, .data, .data, .handle, .sentinel, .sentinel, .sentinel, .sentinel, .sentinel, .sentinel, .sentinel, .sentinel, .sentinel, .sentinel, .sentinel, .sentinel, .sentinel, .sentinel, .pinned], laidTests := true, laidLooks := .later }
def ScanTellsUptoCardSaid : Prop := Claim7.holds Tryz.pinned (.plain (OpenSpec.upto scanTellsSpec)) scanTellsUptoCard
end Rows
end Go.Proofs.YtmhchakjkgdpmaaGreatDoor
