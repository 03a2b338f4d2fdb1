/-
  DERIVED. GIVEN WITH THE SEED: THE CARDS: each row of YtikboodjfanjkaaGreatDoorRows.lean that lists a variable, with what it lists TIED to the program's text (the seventh form; the later family's looks); each row that meets fmt, with fmt's text TOLD by the authors' own Lean function (tested against real Go, not proved from fmt's source: count such statements apart). THE CARD IS WHAT COUNTS. Prove the row's statement (the work); the ties are given (YtikboodjfanjkaaGreatDoorTie.lean); close each card by the builder's one call (the guide's Derived/Test/ToyasCard.lean, 'card_holds'). Laid BY PROGRAM, IN A SANDBOX (cutbox-door.mjs). By AI agents, Wed Nov 11 2026. No macro, syntax, notation, axiom, sorry.
-/
import Derived.Test.YtikboodjfanjkaaGreatDoorRows
import GoSem.ClaimSeven
namespace Go.Proofs.YtikboodjfanjkaaGreatDoor
namespace Rows

/-- THE TIED CARD OF 'deedboxlaw3.ExpireTells'. -/
def expireTellsCard : Claim7 := { stood := { row := expireTellsRow, standIns := [], harness := (true, "5decdc34379e3515ba7c4ddd00e016915dc330e79f7750a802718ae7b57cb76e"), looks := true }, kinds := [], alts := [], laidByText := true, laidKinds := [.data, .data, .data, .data, .handle, .sentinel, .sentinel, .sentinel, .sentinel, .sentinel, .sentinel, .sentinel, .sentinel, .sentinel, .sentinel, .sentinel, .sentinel, .pinned], laidTests := true, laidLooks := .later }
def ExpireTellsCardSaid : Prop := Claim7.holds Tryz.pinned (.plain (OpenSpec.ofChange expireTellsSpec)) expireTellsCard

/-- THE TIED CARD OF 'deedboxlaw3.ExpireKeeps'. -/
def expireKeepsCard : Claim7 := { stood := { row := expireKeepsRow, standIns := [], harness := (true, "5decdc34379e3515ba7c4ddd00e016915dc330e79f7750a802718ae7b57cb76e"), looks := true }, kinds := [], alts := [], laidByText := true, laidKinds := [.data, .data, .data, .data, .handle, .sentinel, .sentinel, .sentinel, .sentinel, .sentinel, .sentinel, .sentinel, .sentinel, .sentinel, .sentinel, .sentinel, .sentinel, .pinned], laidTests := true, laidLooks := .later }
def ExpireKeepsCardSaid : Prop := Claim7.holds Tryz.pinned (.plain (OpenSpec.ofChange expireKeepsSpec)) expireKeepsCard

/-- THE TIED CARD OF 'deedboxlaw2.ListTells'. -/
def listTellsCard : Claim7 := { stood := { row := listTellsRow, standIns := [], harness := (true, "5decdc34379e3515ba7c4ddd00e016915dc330e79f7750a802718ae7b57cb76e"), looks := true }, kinds := [], alts := [], laidByText := true, laidKinds := [.data, .data, .data, .data, .handle, .sentinel, .sentinel, .sentinel, .sentinel, .sentinel, .sentinel, .sentinel, .sentinel, .sentinel, .sentinel, .sentinel, .sentinel, .sentinel, .sentinel, .pinned], laidTests := true, laidLooks := .later }
def ListTellsCardSaid : Prop := Claim7.holds Tryz.pinned (.plain (OpenSpec.ofChange listTellsSpec)) listTellsCard

/-- THE TIED CARD OF 'deedboxlaw2.SnapTells'. -/
def snapTellsCard : Claim7 := { stood := { row := snapTellsRow, standIns := [], harness := (true, "5decdc34379e3515ba7c4ddd00e016915dc330e79f7750a802718ae7b57cb76e"), looks := true }, kinds := [], alts := [], laidByText := true, laidKinds := [.data, .data, .data, .data, .handle, .sentinel, .sentinel, .sentinel, .sentinel, .sentinel, .sentinel, .sentinel, .sentinel, .sentinel, .sentinel, .sentinel, .sentinel, .sentinel, .sentinel, .pinned], laidTests := true, laidLooks := .later }
def SnapTellsCardSaid : Prop := Claim7.holds Tryz.pinned (.plain (OpenSpec.ofChange snapTellsSpec)) snapTellsCard

/-- THE SECOND FORM's CARD OF 'deedboxlaw3.ExpireTells'. -/
def expireTellsUptoCard : Claim7 := { stood := { row := expireTellsUptoRow, standIns := [], harness := (true, "5decdc34379e3515ba7c4ddd00e016915dc330e79f7750a802718ae7b57cb76e"), looks := true }, kinds := [], alts := [], laidByText := true, laidKinds := [.data, .data, .data, .data, .handle, .sentinel, .sentinel, .sentinel, .sentinel, .sentinel, .sentinel, .sentinel, .sentinel, .sentinel, .sentinel, .sentinel, .sentinel, .pinned], laidTests := true, laidLooks := .later }
def ExpireTellsUptoCardSaid : Prop := Claim7.holds Tryz.pinned (.plain (OpenSpec.upto expireTellsSpec)) expireTellsUptoCard

/-- THE SECOND FORM's CARD OF 'deedboxlaw3.ExpireKeeps'. -/
def expireKeepsUptoCard : Claim7 := { stood := { row := expireKeepsUptoRow, standIns := [], harness := (true, "5decdc34379e3515ba7c4ddd00e016915dc330e79f7750a802718ae7b57cb76e"), looks := true }, kinds := [], alts := [], laidByText := true, laidKinds := [.data, .data, .data, .data, .handle, .sentinel, .sentinel, .sentinel, .sentinel, .sentinel, .sentinel, .sentinel, .sentinel, .sentinel, .sentinel, .sentinel, .sentinel, .pinned], laidTests := true, laidLooks := .later }
def ExpireKeepsUptoCardSaid : Prop := Claim7.holds Tryz.pinned (.plain (OpenSpec.upto expireKeepsSpec)) expireKeepsUptoCard

/-- THE SECOND FORM's CARD OF 'deedboxlaw2.ListTells'. -/
def listTellsUptoCard : Claim7 := { stood := { row := listTellsUptoRow, standIns := [], harness := (true, "5decdc34379e3515ba7c4ddd00e016915dc330e79f7750a802718ae7b57cb76e"), looks := true }, kinds := [], alts := [], laidByText := true, laidKinds := [.data, .data, .data, .data, .handle, .sentinel, .sentinel, .sentinel, .sentinel, .sentinel, .sentinel, .sentinel, .sentinel, .sentinel, .sentinel, .sentinel, .sentinel, .sentinel, .sentinel, .pinned], laidTests := true, laidLooks := .later }
def ListTellsUptoCardSaid : Prop := Claim7.holds Tryz.pinned (.plain (OpenSpec.upto listTellsSpec)) listTellsUptoCard

/-- THE SECOND FORM's CARD OF 'deedboxlaw2.SnapTells'. -/
def snapTellsUptoCard : Claim7 := { stood := { row := snapTellsUptoRow, standIns := [], harness := (true, "5decdc34379e3515ba7c4ddd00e016915dc330e79f7750a802718ae7b57cb76e"), looks := true }, kinds := [], alts := [], laidByText := true, laidKinds := [.data, .data, .data, .data, .handle, .sentinel, .sentinel, .sentinel, .sentinel, .sentinel, .sentinel, .sentinel, .sentinel, .sentinel, .sentinel, .sentinel, .sentinel, .sentinel, .sentinel, .pinned], laidTests := true, laidLooks := .later }
def SnapTellsUptoCardSaid : Prop := Claim7.holds Tryz.pinned (.plain (OpenSpec.upto snapTellsSpec)) snapTellsUptoCard
end Rows
end Go.Proofs.YtikboodjfanjkaaGreatDoor
