/-
  DERIVED. GIVEN WITH THE SEED: THE CARDS: each row of YtcdcfolhnjgigaaGreatDoorRows.lean that lists a variable, with what it lists TIED to the program's text (the seventh form; the later family's looks); each row that meets fmt, with fmt's text TOLD by the authors' own Lean function (tested against real Go, not proved from fmt's source: count such statements apart). THE CARD IS WHAT COUNTS. Prove the row's statement (the work); the ties are given (YtcdcfolhnjgigaaGreatDoorTie.lean); close each card by the builder's one call (the guide's Derived/Test/ToyasCard.lean, 'card_holds'). Laid BY PROGRAM, IN A SANDBOX (cutbox-door.mjs). By AI agents, Wed Nov 11 2026. No macro, syntax, notation, axiom, sorry.
-/
import Derived.Test.YtcdcfolhnjgigaaGreatDoorRows
import GoSem.ClaimSeven
namespace Go.Proofs.YtcdcfolhnjgigaaGreatDoor
namespace Rows

/-- THE TIED CARD OF 'deedboxlaw1.PartOnce'. -/
def partOnceCard : Claim7 := { stood := { row := partOnceRow, standIns := [], harness := (true, "40f3a8e246a8a9fcc2190c6e60ad1109dae018903e0e5d63f52f88703d0222f6"), looks := true }, kinds := [], alts := [], laidByText := true, laidKinds := [.data, .data, .data, .data, .sentinel, .sentinel, .sentinel, .sentinel, .sentinel, .pinned], laidTests := true, laidLooks := .later }
def PartOnceCardSaid : Prop := Claim7.holds Tryz.pinned (.plain (OpenSpec.ofChange partOnceSpec)) partOnceCard

/-- THE TIED CARD OF 'deedboxlaw1.GoneBack'. -/
def goneBackCard : Claim7 := { stood := { row := goneBackRow, standIns := [], harness := (true, "40f3a8e246a8a9fcc2190c6e60ad1109dae018903e0e5d63f52f88703d0222f6"), looks := true }, kinds := [], alts := [], laidByText := true, laidKinds := [.data, .data, .data, .data, .sentinel, .sentinel, .sentinel, .sentinel, .sentinel, .sentinel, .sentinel, .sentinel, .pinned], laidTests := true, laidLooks := .later }
def GoneBackCardSaid : Prop := Claim7.holds Tryz.pinned (.plain (OpenSpec.ofChange goneBackSpec)) goneBackCard

/-- THE TIED CARD OF 'deedboxlaw1.RowSorts'. -/
def rowSortsCard : Claim7 := { stood := { row := rowSortsRow, standIns := [], harness := (true, "40f3a8e246a8a9fcc2190c6e60ad1109dae018903e0e5d63f52f88703d0222f6"), looks := true }, kinds := [], alts := [], laidByText := true, laidKinds := [.data, .data, .data, .data, .sentinel, .sentinel, .sentinel, .sentinel, .sentinel, .pinned], laidTests := true, laidLooks := .later }
def RowSortsCardSaid : Prop := Claim7.holds Tryz.pinned (.plain (OpenSpec.ofChange rowSortsSpec)) rowSortsCard

/-- THE TIED CARD OF 'deedboxlaw2.SnapTells'. -/
def snapTellsCard : Claim7 := { stood := { row := snapTellsRow, standIns := [], harness := (true, "40f3a8e246a8a9fcc2190c6e60ad1109dae018903e0e5d63f52f88703d0222f6"), looks := true }, kinds := [], alts := [], laidByText := true, laidKinds := [.data, .data, .data, .data, .handle, .sentinel, .sentinel, .sentinel, .sentinel, .sentinel, .sentinel, .sentinel, .sentinel, .sentinel, .sentinel, .sentinel, .sentinel, .sentinel, .sentinel, .pinned], laidTests := true, laidLooks := .later }
def SnapTellsCardSaid : Prop := Claim7.holds Tryz.pinned (.plain (OpenSpec.ofChange snapTellsSpec)) snapTellsCard

/-- THE TIED CARD OF 'deedboxlaw1.PartTells'. -/
def partTellsCard : Claim7 := { stood := { row := partTellsRow, standIns := [], harness := (true, "40f3a8e246a8a9fcc2190c6e60ad1109dae018903e0e5d63f52f88703d0222f6"), looks := true }, kinds := [], alts := [], laidByText := true, laidKinds := [.data, .data, .data, .data, .handle, .sentinel, .sentinel, .sentinel, .sentinel, .sentinel, .sentinel, .sentinel, .sentinel, .sentinel, .sentinel, .sentinel, .sentinel, .sentinel, .sentinel, .pinned], laidTests := true, laidLooks := .later }
def PartTellsCardSaid : Prop := Claim7.holds Tryz.pinned (.plain (OpenSpec.ofChange partTellsSpec)) partTellsCard

/-- THE TIED CARD OF 'deedboxlaw1.GoneTells'. -/
def goneTellsCard : Claim7 := { stood := { row := goneTellsRow, standIns := [], harness := (true, "40f3a8e246a8a9fcc2190c6e60ad1109dae018903e0e5d63f52f88703d0222f6"), looks := true }, kinds := [], alts := [], laidByText := true, laidKinds := [.data, .data, .data, .data, .handle, .sentinel, .sentinel, .sentinel, .sentinel, .sentinel, .sentinel, .sentinel, .sentinel, .sentinel, .sentinel, .sentinel, .sentinel, .sentinel, .sentinel, .pinned], laidTests := true, laidLooks := .later }
def GoneTellsCardSaid : Prop := Claim7.holds Tryz.pinned (.plain (OpenSpec.ofChange goneTellsSpec)) goneTellsCard

/-- THE TIED CARD OF 'deedboxlaw1.RowTells'. -/
def rowTellsCard : Claim7 := { stood := { row := rowTellsRow, standIns := [], harness := (true, "40f3a8e246a8a9fcc2190c6e60ad1109dae018903e0e5d63f52f88703d0222f6"), looks := true }, kinds := [], alts := [], laidByText := true, laidKinds := [.data, .data, .data, .data, .handle, .sentinel, .sentinel, .sentinel, .sentinel, .sentinel, .sentinel, .sentinel, .sentinel, .sentinel, .sentinel, .sentinel, .sentinel, .sentinel, .sentinel, .pinned], laidTests := true, laidLooks := .later }
def RowTellsCardSaid : Prop := Claim7.holds Tryz.pinned (.plain (OpenSpec.ofChange rowTellsSpec)) rowTellsCard

/-- THE SECOND FORM's CARD OF 'deedboxlaw1.PartOnce'. -/
def partOnceUptoCard : Claim7 := { stood := { row := partOnceUptoRow, standIns := [], harness := (true, "40f3a8e246a8a9fcc2190c6e60ad1109dae018903e0e5d63f52f88703d0222f6"), looks := true }, kinds := [], alts := [], laidByText := true, laidKinds := [.data, .data, .data, .data, .sentinel, .sentinel, .sentinel, .sentinel, .sentinel, .pinned], laidTests := true, laidLooks := .later }
def PartOnceUptoCardSaid : Prop := Claim7.holds Tryz.pinned (.plain (OpenSpec.upto partOnceSpec)) partOnceUptoCard

/-- THE SECOND FORM's CARD OF 'deedboxlaw1.GoneBack'. -/
def goneBackUptoCard : Claim7 := { stood := { row := goneBackUptoRow, standIns := [], harness := (true, "40f3a8e246a8a9fcc2190c6e60ad1109dae018903e0e5d63f52f88703d0222f6"), looks := true }, kinds := [], alts := [], laidByText := true, laidKinds := [.data, .data, .data, .data, .sentinel, .sentinel, .sentinel, .sentinel, .sentinel, .sentinel, .sentinel, .sentinel, .pinned], laidTests := true, laidLooks := .later }
def GoneBackUptoCardSaid : Prop := Claim7.holds Tryz.pinned (.plain (OpenSpec.upto goneBackSpec)) goneBackUptoCard

/-- THE SECOND FORM's CARD OF 'deedboxlaw1.RowSorts'. -/
def rowSortsUptoCard : Claim7 := { stood := { row := rowSortsUptoRow, standIns := [], harness := (true, "40f3a8e246a8a9fcc2190c6e60ad1109dae018903e0e5d63f52f88703d0222f6"), looks := true }, kinds := [], alts := [], laidByText := true, laidKinds := [.data, .data, .data, .data, .sentinel, .sentinel, .sentinel, .sentinel, .sentinel, .pinned], laidTests := true, laidLooks := .later }
def RowSortsUptoCardSaid : Prop := Claim7.holds Tryz.pinned (.plain (OpenSpec.upto rowSortsSpec)) rowSortsUptoCard

/-- THE SECOND FORM's CARD OF 'deedboxlaw2.SnapTells'. -/
def snapTellsUptoCard : Claim7 := { stood := { row := snapTellsUptoRow, standIns := [], harness := (true, "40f3a8e246a8a9fcc2190c6e60ad1109dae018903e0e5d63f52f88703d0222f6"), looks := true }, kinds := [], alts := [], laidByText := true, laidKinds := [.data, .data, .data, .data, .handle, .sentinel, .sentinel, .sentinel, .sentinel, .sentinel, .sentinel, .sentinel, .sentinel, .sentinel, .sentinel, .sentinel, .sentinel, .sentinel, .sentinel, .pinned], laidTests := true, laidLooks := .later }
def SnapTellsUptoCardSaid : Prop := Claim7.holds Tryz.pinned (.plain (OpenSpec.upto snapTellsSpec)) snapTellsUptoCard

/-- THE SECOND FORM's CARD OF 'deedboxlaw1.PartTells'. -/
def partTellsUptoCard : Claim7 := { stood := { row := partTellsUptoRow, standIns := [], harness := (true, "40f3a8e246a8a9fcc2190c6e60ad1109dae018903e0e5d63f52f88703d0222f6"), looks := true }, kinds := [], alts := [], laidByText := true, laidKinds := [.data, .data, .data, .data, .handle, .sentinel, .sentinel, .sentinel, .sentinel, .sentinel, .sentinel, .sentinel, .sentinel, .sentinel, .sentinel, .sentinel, .sentinel, .sentinel, .sentinel, .pinned], laidTests := true, laidLooks := .later }
def PartTellsUptoCardSaid : Prop := Claim7.holds Tryz.pinned (.plain (OpenSpec.upto partTellsSpec)) partTellsUptoCard

/-- THE SECOND FORM's CARD OF 'deedboxlaw1.GoneTells'. -/
def goneTellsUptoCard : Claim7 := { stood := { row := goneTellsUptoRow, standIns := [], harness := (true, "40f3a8e246a8a9fcc2190c6e60ad1109dae018903e0e5d63f52f88703d0222f6"), looks := true }, kinds := [], alts := [], laidByText := true, laidKinds := [.data, .data, .data, .data, .handle, .sentinel, .sentinel, .sentinel, .sentinel, .sentinel, .sentinel, .sentinel, .sentinel, .sentinel, .sentinel, .sentinel, .sentinel, .sentinel, .sentinel, .pinned], laidTests := true, laidLooks := .later }
def GoneTellsUptoCardSaid : Prop := Claim7.holds Tryz.pinned (.plain (OpenSpec.upto goneTellsSpec)) goneTellsUptoCard

/-- THE SECOND FORM's CARD OF 'deedboxlaw1.RowTells'. -/
def rowTellsUptoCard : Claim7 := { stood := { row := rowTellsUptoRow, standIns := [], harness := (true, "40f3a8e246a8a9fcc2190c6e60ad1109dae018903e0e5d63f52f88703d0222f6"), looks := true }, kinds := [], alts := [], laidByText := true, laidKinds := [.data, .data, .data, .data, .handle, .sentinel, .sentinel, .sentinel, .sentinel, .sentinel, .sentinel, .sentinel, .sentinel, .sentinel, .sentinel, .sentinel, .sentinel, .sentinel, .sentinel, .pinned], laidTests := true, laidLooks := .later }
def RowTellsUptoCardSaid : Prop := Claim7.holds Tryz.pinned (.plain (OpenSpec.upto rowTellsSpec)) rowTellsUptoCard
end Rows
end Go.Proofs.YtcdcfolhnjgigaaGreatDoor
