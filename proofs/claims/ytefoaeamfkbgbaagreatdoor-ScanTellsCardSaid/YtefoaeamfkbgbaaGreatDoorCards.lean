/-
  DERIVED. GIVEN WITH THE SEED: THE CARDS: each row of YtefoaeamfkbgbaaGreatDoorRows.lean that lists a variable, with what it lists TIED to the program's text (the seventh form; the later family's looks); each row that meets fmt, with fmt's text TOLD by the authors' own Lean function (tested against real Go, not proved from fmt's source: count such statements apart). THE CARD IS WHAT COUNTS. Prove the row's statement (the work); the ties are given (YtefoaeamfkbgbaaGreatDoorTie.lean); close each card by the builder's one call (the guide's Derived/Test/ToyasCard.lean, 'card_holds'). Laid BY PROGRAM, IN A SANDBOX (cutbox-door.mjs). By AI agents, Wed Nov 11 2026. No macro, syntax, notation, axiom, sorry.
-/
import Derived.Test.YtefoaeamfkbgbaaGreatDoorRows
import GoSem.ClaimSeven
namespace Go.Proofs.YtefoaeamfkbgbaaGreatDoor
namespace Rows

/-- THE TIED CARD OF 'deedboxlaw3.ScanDeletes'. -/
def scanDeletesCard : Claim7 := { stood := { row := scanDeletesRow, standIns := [], harness := (true, "e70870b44ebeff616fe8cd5ff32ab05cee1d26f6f6a0f2e18c01957db5f7833a"), looks := true }, kinds := [], alts := [], laidByText := true, laidKinds := [.data, .data, .data, .data, .sentinel, .sentinel, .sentinel, .sentinel, .sentinel, .sentinel, .sentinel, .sentinel, .sentinel, .sentinel, .sentinel, .sentinel, .sentinel, .pinned], laidTests := true, laidLooks := .later }
def ScanDeletesCardSaid : Prop := Claim7.holds Tryz.pinned (.plain (OpenSpec.ofChange scanDeletesSpec)) scanDeletesCard

/-- THE TIED CARD OF 'deedboxlaw3.ScanPrunes'. -/
def scanPrunesCard : Claim7 := { stood := { row := scanPrunesRow, standIns := [], harness := (true, "e70870b44ebeff616fe8cd5ff32ab05cee1d26f6f6a0f2e18c01957db5f7833a"), looks := true }, kinds := [], alts := [], laidByText := true, laidKinds := [.data, .data, .data, .data, .sentinel, .sentinel, .sentinel, .sentinel, .sentinel, .sentinel, .sentinel, .sentinel, .sentinel, .sentinel, .sentinel, .sentinel, .sentinel, .pinned], laidTests := true, laidLooks := .later }
def ScanPrunesCardSaid : Prop := Claim7.holds Tryz.pinned (.plain (OpenSpec.ofChange scanPrunesSpec)) scanPrunesCard

/-- THE TIED CARD OF 'deedboxlaw3.ScanTells'. -/
def scanTellsCard : Claim7 := { stood := { row := scanTellsRow, standIns := [], harness := (true, "e70870b44ebeff616fe8cd5ff32ab05cee1d26f6f6a0f2e18c01957db5f7833a"), looks := true }, kinds := [], alts := [], laidByText := true, laidKinds := [.data, .data, .data, .data, .handle, .sentinel, .sentinel, .sentinel, .sentinel, .sentinel, .sentinel, .sentinel, .sentinel, .sentinel, .sentinel, .sentinel, .sentinel, .sentinel, .sentinel, .pinned], laidTests := true, laidLooks := .later }
def ScanTellsCardSaid : Prop := Claim7.holds Tryz.pinned (.plain (OpenSpec.ofChange scanTellsSpec)) scanTellsCard

/-- THE SECOND FORM's CARD OF 'deedboxlaw3.ScanDeletes'. -/
def scanDeletesUptoCard : Claim7 := { stood := { row := scanDeletesUptoRow, standIns := [], harness := (true, "e70870b44ebeff616fe8cd5ff32ab05cee1d26f6f6a0f2e18c01957db5f7833a"), looks := true }, kinds := [], alts := [], laidByText := true, laidKinds := [.data, .data, .data, .data, .sentinel, .sentinel, .sentinel, .sentinel, .sentinel, .sentinel, .sentinel, .sentinel, .sentinel, .sentinel, .sentinel, .sentinel, .sentinel, .pinned], laidTests := true, laidLooks := .later }
def ScanDeletesUptoCardSaid : Prop := Claim7.holds Tryz.pinned (.plain (OpenSpec.upto scanDeletesSpec)) scanDeletesUptoCard

/-- THE SECOND FORM's CARD OF 'deedboxlaw3.ScanPrunes'. -/
def scanPrunesUptoCard : Claim7 := { stood := { row := scanPrunesUptoRow, standIns := [], harness := (true, "e70870b44ebeff616fe8cd5ff32ab05cee1d26f6f6a0f2e18c01957db5f7833a"), looks := true }, kinds := [], alts := [], laidByText := true, laidKinds := [.data, .data, .data, .data, .sentinel, .sentinel, .sentinel, .sentinel, .sentinel, .sentinel, .sentinel, .sentinel, .sentinel, .sentinel, .sentinel, .sentinel, .sentinel, .pinned], laidTests := true, laidLooks := .later }
def ScanPrunesUptoCardSaid : Prop := Claim7.holds Tryz.pinned (.plain (OpenSpec.upto scanPrunesSpec)) scanPrunesUptoCard

/-- THE SECOND FORM's CARD OF 'deedboxlaw3.ScanTells'. -/
def scanTellsUptoCard : Claim7 := { stood := { row := scanTellsUptoRow, standIns := [], harness := (true, "e70870b44ebeff616fe8cd5ff32ab05cee1d26f6f6a0f2e18c01957db5f7833a"), looks := true }, kinds := [], alts := [], laidByText := true, laidKinds := [.data, .data, .data, .data, .handle, .sentinel, .sentinel, .sentinel, .sentinel, .sentinel, .sentinel, .sentinel, .sentinel, .sentinel, .sentinel, .sentinel, .sentinel, .sentinel, .sentinel, .pinned], laidTests := true, laidLooks := .later }
def ScanTellsUptoCardSaid : Prop := Claim7.holds Tryz.pinned (.plain (OpenSpec.upto scanTellsSpec)) scanTellsUptoCard
end Rows
end Go.Proofs.YtefoaeamfkbgbaaGreatDoor
