/-
  DERIVED. GIVEN WITH THE SEED: THE CARDS: each row of YtlfkjbdkbdcdnaaGreatDoorRows.lean that lists a variable, with what it lists TIED to the program's text (the seventh form; the later family's looks); each row that meets fmt, with fmt's text TOLD by the authors' own Lean function (tested against real Go, not proved from fmt's source: count such statements apart). THE CARD IS WHAT COUNTS. Prove the row's statement (the work); the ties are given (YtlfkjbdkbdcdnaaGreatDoorTie.lean); close each card by the builder's one call (the guide's Derived/Test/ToyasCard.lean, 'card_holds'). Laid BY PROGRAM, IN A SANDBOX (cutbox-door.mjs). By AI agents, Wed Nov 11 2026. No macro, syntax, notation, axiom, sorry.
-/
import Derived.Test.YtlfkjbdkbdcdnaaGreatDoorRows
import GoSem.ClaimSeven
namespace Go.Proofs.YtlfkjbdkbdcdnaaGreatDoor
namespace Rows

/-- THE TIED CARD OF 'deedboxlaw1.PartOnce'. -/
def partOnceCard : Claim7 := { stood := { row := partOnceRow, standIns := [], harness := (true, "3a9b58f2ec5be7f3dc92974542b2ab320f979abba3d123387028ccbe6aed753e"), looks := true }, kinds := [], alts := [], laidByText := true, laidKinds := [.data, .data, .data, .data, .sentinel, .sentinel, .sentinel, .sentinel, .sentinel, .pinned], laidTests := true, laidLooks := .later }
def PartOnceCardSaid : Prop := Claim7.holds Tryz.pinned (.plain (OpenSpec.ofChange partOnceSpec)) partOnceCard

/-- THE TIED CARD OF 'deedboxlaw1.GoneBack'. -/
def goneBackCard : Claim7 := { stood := { row := goneBackRow, standIns := [], harness := (true, "3a9b58f2ec5be7f3dc92974542b2ab320f979abba3d123387028ccbe6aed753e"), looks := true }, kinds := [], alts := [], laidByText := true, laidKinds := [.data, .data, .data, .data, .sentinel, .sentinel, .sentinel, .sentinel, .sentinel, .sentinel, .sentinel, .sentinel, .pinned], laidTests := true, laidLooks := .later }
def GoneBackCardSaid : Prop := Claim7.holds Tryz.pinned (.plain (OpenSpec.ofChange goneBackSpec)) goneBackCard

/-- THE TIED CARD OF 'deedboxlaw1.PartTells'. -/
def partTellsCard : Claim7 := { stood := { row := partTellsRow, standIns := [], harness := (true, "3a9b58f2ec5be7f3dc92974542b2ab320f979abba3d123387028ccbe6aed753e"), looks := true }, kinds := [], alts := [], laidByText := true, laidKinds := [.data, .data, .data, .data, .handle, .sentinel, .sentinel, .sentinel, .sentinel, .sentinel, .sentinel, .sentinel, .sentinel, .sentinel, .sentinel, .sentinel, .sentinel, .sentinel, .sentinel, .pinned], laidTests := true, laidLooks := .later }
def PartTellsCardSaid : Prop := Claim7.holds Tryz.pinned (.plain (OpenSpec.ofChange partTellsSpec)) partTellsCard

/-- THE TIED CARD OF 'deedboxlaw1.GoneTells'. -/
def goneTellsCard : Claim7 := { stood := { row := goneTellsRow, standIns := [], harness := (true, "3a9b58f2ec5be7f3dc92974542b2ab320f979abba3d123387028ccbe6aed753e"), looks := true }, kinds := [], alts := [], laidByText := true, laidKinds := [.data, .data, .data, .data, .handle, .sentinel, .sentinel, .sentinel, .sentinel, .sentinel, .sentinel, .sentinel, .sentinel, .sentinel, .sentinel, .sentinel, .sentinel, .sentinel, .sentinel, .pinned], laidTests := true, laidLooks := .later }
def GoneTellsCardSaid : Prop := Claim7.holds Tryz.pinned (.plain (OpenSpec.ofChange goneTellsSpec)) goneTellsCard

/-- THE TIED CARD OF 'deedboxlaw1.DataBack'. -/
def dataBackCard : Claim7 := { stood := { row := dataBackRow, standIns := [], harness := (true, "3a9b58f2ec5be7f3dc92974542b2ab320f979abba3d123387028ccbe6aed753e"), looks := true }, kinds := [], alts := [], laidByText := true, laidKinds := [.data, .data, .data, .data, .sentinel, .sentinel, .sentinel, .sentinel, .sentinel, .sentinel, .sentinel, .sentinel, .sentinel, .pinned], laidTests := true, laidLooks := .later }
def DataBackCardSaid : Prop := Claim7.holds Tryz.pinned (.plain (OpenSpec.ofChange dataBackSpec)) dataBackCard

/-- THE TIED CARD OF 'deedboxlaw1.DataTells'. -/
def dataTellsCard : Claim7 := { stood := { row := dataTellsRow, standIns := [], harness := (true, "3a9b58f2ec5be7f3dc92974542b2ab320f979abba3d123387028ccbe6aed753e"), looks := true }, kinds := [], alts := [], laidByText := true, laidKinds := [.data, .data, .data, .data, .handle, .sentinel, .sentinel, .sentinel, .sentinel, .sentinel, .sentinel, .sentinel, .sentinel, .sentinel, .sentinel, .sentinel, .sentinel, .sentinel, .sentinel, .pinned], laidTests := true, laidLooks := .later }
def DataTellsCardSaid : Prop := Claim7.holds Tryz.pinned (.plain (OpenSpec.ofChange dataTellsSpec)) dataTellsCard

/-- THE TIED CARD OF 'deedboxlaw1.FileTells'. -/
def fileTellsCard : Claim7 := { stood := { row := fileTellsRow, standIns := [], harness := (true, "3a9b58f2ec5be7f3dc92974542b2ab320f979abba3d123387028ccbe6aed753e"), looks := true }, kinds := [], alts := [], laidByText := true, laidKinds := [.data, .data, .data, .data, .handle, .sentinel, .sentinel, .sentinel, .sentinel, .sentinel, .sentinel, .sentinel, .sentinel, .sentinel, .sentinel, .sentinel, .sentinel, .sentinel, .sentinel, .pinned], laidTests := true, laidLooks := .later }
def FileTellsCardSaid : Prop := Claim7.holds Tryz.pinned (.plain (OpenSpec.ofChange fileTellsSpec)) fileTellsCard

/-- THE TIED CARD OF 'deedboxlaw1.FileBack'. -/
def fileBackCard : Claim7 := { stood := { row := fileBackRow, standIns := [], harness := (true, "3a9b58f2ec5be7f3dc92974542b2ab320f979abba3d123387028ccbe6aed753e"), looks := true }, kinds := [], alts := [], laidByText := true, laidKinds := [.data, .data, .data, .data, .sentinel, .sentinel, .sentinel, .sentinel, .sentinel, .sentinel, .sentinel, .sentinel, .sentinel, .sentinel, .pinned], laidTests := true, laidLooks := .later }
def FileBackCardSaid : Prop := Claim7.holds Tryz.pinned (.plain (OpenSpec.ofChange fileBackSpec)) fileBackCard

/-- THE SECOND FORM's CARD OF 'deedboxlaw1.PartOnce'. -/
def partOnceUptoCard : Claim7 := { stood := { row := partOnceUptoRow, standIns := [], harness := (true, "3a9b58f2ec5be7f3dc92974542b2ab320f979abba3d123387028ccbe6aed753e"), looks := true }, kinds := [], alts := [], laidByText := true, laidKinds := [.data, .data, .data, .data, .sentinel, .sentinel, .sentinel, .sentinel, .sentinel, .pinned], laidTests := true, laidLooks := .later }
def PartOnceUptoCardSaid : Prop := Claim7.holds Tryz.pinned (.plain (OpenSpec.upto partOnceSpec)) partOnceUptoCard

/-- THE SECOND FORM's CARD OF 'deedboxlaw1.GoneBack'. -/
def goneBackUptoCard : Claim7 := { stood := { row := goneBackUptoRow, standIns := [], harness := (true, "3a9b58f2ec5be7f3dc92974542b2ab320f979abba3d123387028ccbe6aed753e"), looks := true }, kinds := [], alts := [], laidByText := true, laidKinds := [.data, .data, .data, .data, .sentinel, .sentinel, .sentinel, .sentinel, .sentinel, .sentinel, .sentinel, .sentinel, .pinned], laidTests := true, laidLooks := .later }
def GoneBackUptoCardSaid : Prop := Claim7.holds Tryz.pinned (.plain (OpenSpec.upto goneBackSpec)) goneBackUptoCard

/-- THE SECOND FORM's CARD OF 'deedboxlaw1.PartTells'. -/
def partTellsUptoCard : Claim7 := { stood := { row := partTellsUptoRow, standIns := [], harness := (true, "3a9b58f2ec5be7f3dc92974542b2ab320f979abba3d123387028ccbe6aed753e"), looks := true }, kinds := [], alts := [], laidByText := true, laidKinds := [.data, .data, .data, .data, .handle, .sentinel, .sentinel, .sentinel, .sentinel, .sentinel, .sentinel, .sentinel, .sentinel, .sentinel, .sentinel, .sentinel, .sentinel, .sentinel, .sentinel, .pinned], laidTests := true, laidLooks := .later }
def PartTellsUptoCardSaid : Prop := Claim7.holds Tryz.pinned (.plain (OpenSpec.upto partTellsSpec)) partTellsUptoCard

/-- THE SECOND FORM's CARD OF 'deedboxlaw1.GoneTells'. -/
def goneTellsUptoCard : Claim7 := { stood := { row := goneTellsUptoRow, standIns := [], harness := (true, "3a9b58f2ec5be7f3dc92974542b2ab320f979abba3d123387028ccbe6aed753e"), looks := true }, kinds := [], alts := [], laidByText := true, laidKinds := [.data, .data, .data, .data, .handle, .sentinel, .sentinel, .sentinel, .sentinel, .sentinel, .sentinel, .sentinel, .sentinel, .sentinel, .sentinel, .sentinel, .sentinel, .sentinel, .sentinel, .pinned], laidTests := true, laidLooks := .later }
def GoneTellsUptoCardSaid : Prop := Claim7.holds Tryz.pinned (.plain (OpenSpec.upto goneTellsSpec)) goneTellsUptoCard

/-- THE SECOND FORM's CARD OF 'deedboxlaw1.DataBack'. -/
def dataBackUptoCard : Claim7 := { stood := { row := dataBackUptoRow, standIns := [], harness := (true, "3a9b58f2ec5be7f3dc92974542b2ab320f979abba3d123387028ccbe6aed753e"), looks := true }, kinds := [], alts := [], laidByText := true, laidKinds := [.data, .data, .data, .data, .sentinel, .sentinel, .sentinel, .sentinel, .sentinel, .sentinel, .sentinel, .sentinel, .sentinel, .pinned], laidTests := true, laidLooks := .later }
def DataBackUptoCardSaid : Prop := Claim7.holds Tryz.pinned (.plain (OpenSpec.upto dataBackSpec)) dataBackUptoCard

/-- THE SECOND FORM's CARD OF 'deedboxlaw1.DataTells'. -/
def dataTellsUptoCard : Claim7 := { stood := { row := dataTellsUptoRow, standIns := [], harness := (true, "3a9b58f2ec5be7f3dc92974542b2ab320f979abba3d123387028ccbe6aed753e"), looks := true }, kinds := [], alts := [], laidByText := true, laidKinds := [.data, .data, .data, .data, .handle, .sentinel, .sentinel, .sentinel, .sentinel, .sentinel, .sentinel, .sentinel, .sentinel, .sentinel, .sentinel, .sentinel, .sentinel, .sentinel, .sentinel, .pinned], laidTests := true, laidLooks := .later }
def DataTellsUptoCardSaid : Prop := Claim7.holds Tryz.pinned (.plain (OpenSpec.upto dataTellsSpec)) dataTellsUptoCard

/-- THE SECOND FORM's CARD OF 'deedboxlaw1.FileTells'. -/
def fileTellsUptoCard : Claim7 := { stood := { row := fileTellsUptoRow, standIns := [], harness := (true, "3a9b58f2ec5be7f3dc92974542b2ab320f979abba3d123387028ccbe6aed753e"), looks := true }, kinds := [], alts := [], laidByText := true, laidKinds := [.data, .data, .data, .data, .handle, .sentinel, .sentinel, .sentinel, .sentinel, .sentinel, .sentinel, .sentinel, .sentinel, .sentinel, .sentinel, .sentinel, .sentinel, .sentinel, .sentinel, .pinned], laidTests := true, laidLooks := .later }
def FileTellsUptoCardSaid : Prop := Claim7.holds Tryz.pinned (.plain (OpenSpec.upto fileTellsSpec)) fileTellsUptoCard

/-- THE SECOND FORM's CARD OF 'deedboxlaw1.FileBack'. -/
def fileBackUptoCard : Claim7 := { stood := { row := fileBackUptoRow, standIns := [], harness := (true, "3a9b58f2ec5be7f3dc92974542b2ab320f979abba3d123387028ccbe6aed753e"), looks := true }, kinds := [], alts := [], laidByText := true, laidKinds := [.data, .data, .data, .data, .sentinel, .sentinel, .sentinel, .sentinel, .sentinel, .sentinel, .sentinel, .sentinel, .sentinel, .sentinel, .pinned], laidTests := true, laidLooks := .later }
def FileBackUptoCardSaid : Prop := Claim7.holds Tryz.pinned (.plain (OpenSpec.upto fileBackSpec)) fileBackUptoCard
end Rows
end Go.Proofs.YtlfkjbdkbdcdnaaGreatDoor
