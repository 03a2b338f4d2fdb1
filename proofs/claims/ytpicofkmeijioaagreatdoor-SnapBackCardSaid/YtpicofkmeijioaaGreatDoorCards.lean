/-
  DERIVED. GIVEN WITH THE SEED: THE CARDS: each row of YtpicofkmeijioaaGreatDoorRows.lean that lists a variable, with what it lists TIED to the program's text (the seventh form; the later family's looks); each row that meets fmt, with fmt's text TOLD by the authors' own Lean function (tested against real Go, not proved from fmt's source: count such statements apart). THE CARD IS WHAT COUNTS. Prove the row's statement (the work); the ties are given (YtpicofkmeijioaaGreatDoorTie.lean); close each card by the builder's one call (the guide's Derived/Test/ToyasCard.lean, 'card_holds'). Laid BY PROGRAM, IN A SANDBOX (cutbox-door.mjs). By AI agents, Wed Nov 11 2026. No macro, syntax, notation, axiom, sorry.
-/
import Derived.Test.YtpicofkmeijioaaGreatDoorRows
import GoSem.ClaimSeven
namespace Go.Proofs.YtpicofkmeijioaaGreatDoor
namespace Rows

/-- THE TIED CARD OF 'deedboxlaw3.ExpireTells'. -/
def expireTellsCard : Claim7 := { stood := { row := expireTellsRow, standIns := [], harness := (true, "feac57868d2fefcebad192142d9888a2433fb1a6932cf2ed928ac86e5447ccb0"), looks := true }, kinds := [], alts := [], laidByText := true, laidKinds := [.data, .data, .data, .data, .handle, .sentinel, .sentinel, .sentinel, .sentinel, .sentinel, .sentinel, .sentinel, .sentinel, .sentinel, .sentinel, .sentinel, .sentinel, .pinned], laidTests := true, laidLooks := .later }
def ExpireTellsCardSaid : Prop := Claim7.holds Tryz.pinned (.plain (OpenSpec.ofChange expireTellsSpec)) expireTellsCard

/-- THE TIED CARD OF 'deedboxlaw3.ExpireKeeps'. -/
def expireKeepsCard : Claim7 := { stood := { row := expireKeepsRow, standIns := [], harness := (true, "feac57868d2fefcebad192142d9888a2433fb1a6932cf2ed928ac86e5447ccb0"), looks := true }, kinds := [], alts := [], laidByText := true, laidKinds := [.data, .data, .data, .data, .handle, .sentinel, .sentinel, .sentinel, .sentinel, .sentinel, .sentinel, .sentinel, .sentinel, .sentinel, .sentinel, .sentinel, .sentinel, .pinned], laidTests := true, laidLooks := .later }
def ExpireKeepsCardSaid : Prop := Claim7.holds Tryz.pinned (.plain (OpenSpec.ofChange expireKeepsSpec)) expireKeepsCard

/-- THE TIED CARD OF 'deedboxlaw2.ListBack'. -/
def listBackCard : Claim7 := { stood := { row := listBackRow, standIns := [], harness := (true, "feac57868d2fefcebad192142d9888a2433fb1a6932cf2ed928ac86e5447ccb0"), looks := true }, kinds := [], alts := [], laidByText := true, laidKinds := [.data, .data, .data, .data, .sentinel, .sentinel, .sentinel, .sentinel, .sentinel, .sentinel, .sentinel, .sentinel, .sentinel, .sentinel, .pinned], laidTests := true, laidLooks := .later }
def ListBackCardSaid : Prop := Claim7.holds Tryz.pinned (.plain (OpenSpec.ofChange listBackSpec)) listBackCard

/-- THE TIED CARD OF 'deedboxlaw2.ListTells'. -/
def listTellsCard : Claim7 := { stood := { row := listTellsRow, standIns := [], harness := (true, "feac57868d2fefcebad192142d9888a2433fb1a6932cf2ed928ac86e5447ccb0"), looks := true }, kinds := [], alts := [], laidByText := true, laidKinds := [.data, .data, .data, .data, .handle, .sentinel, .sentinel, .sentinel, .sentinel, .sentinel, .sentinel, .sentinel, .sentinel, .sentinel, .sentinel, .sentinel, .sentinel, .sentinel, .sentinel, .pinned], laidTests := true, laidLooks := .later }
def ListTellsCardSaid : Prop := Claim7.holds Tryz.pinned (.plain (OpenSpec.ofChange listTellsSpec)) listTellsCard

/-- THE TIED CARD OF 'deedboxlaw2.SnapBack'. -/
def snapBackCard : Claim7 := { stood := { row := snapBackRow, standIns := [], harness := (true, "feac57868d2fefcebad192142d9888a2433fb1a6932cf2ed928ac86e5447ccb0"), looks := true }, kinds := [], alts := [], laidByText := true, laidKinds := [.data, .data, .data, .data, .handle, .sentinel, .sentinel, .sentinel, .sentinel, .sentinel, .sentinel, .sentinel, .sentinel, .sentinel, .sentinel, .sentinel, .sentinel, .sentinel, .sentinel, .pinned], laidTests := true, laidLooks := .later }
def SnapBackCardSaid : Prop := Claim7.holds Tryz.pinned (.plain (OpenSpec.ofChange snapBackSpec)) snapBackCard

/-- THE SECOND FORM's CARD OF 'deedboxlaw3.ExpireTells'. -/
def expireTellsUptoCard : Claim7 := { stood := { row := expireTellsUptoRow, standIns := [], harness := (true, "feac57868d2fefcebad192142d9888a2433fb1a6932cf2ed928ac86e5447ccb0"), looks := true }, kinds := [], alts := [], laidByText := true, laidKinds := [.data, .data, .data, .data, .handle, .sentinel, .sentinel, .sentinel, .sentinel, .sentinel, .sentinel, .sentinel, .sentinel, .sentinel, .sentinel, .sentinel, .sentinel, .pinned], laidTests := true, laidLooks := .later }
def ExpireTellsUptoCardSaid : Prop := Claim7.holds Tryz.pinned (.plain (OpenSpec.upto expireTellsSpec)) expireTellsUptoCard

/-- THE SECOND FORM's CARD OF 'deedboxlaw3.ExpireKeeps'. -/
def expireKeepsUptoCard : Claim7 := { stood := { row := expireKeepsUptoRow, standIns := [], harness := (true, "feac57868d2fefcebad192142d9888a2433fb1a6932cf2ed928ac86e5447ccb0"), looks := true }, kinds := [], alts := [], laidByText := true, laidKinds := [.data, .data, .data, .data, .handle, .sentinel, .sentinel, .sentinel, .sentinel, .sentinel, .sentinel, .sentinel, .sentinel, .sentinel, .sentinel, .sentinel, .sentinel, .pinned], laidTests := true, laidLooks := .later }
def ExpireKeepsUptoCardSaid : Prop := Claim7.holds Tryz.pinned (.plain (OpenSpec.upto expireKeepsSpec)) expireKeepsUptoCard

/-- THE SECOND FORM's CARD OF 'deedboxlaw2.ListBack'. -/
def listBackUptoCard : Claim7 := { stood := { row := listBackUptoRow, standIns := [], harness := (true, "feac57868d2fefcebad192142d9888a2433fb1a6932cf2ed928ac86e5447ccb0"), looks := true }, kinds := [], alts := [], laidByText := true, laidKinds := [.data, .data, .data, .data, .sentinel, .sentinel, .sentinel, .sentinel, .sentinel, .sentinel, .sentinel, .sentinel, .sentinel, .sentinel, .pinned], laidTests := true, laidLooks := .later }
def ListBackUptoCardSaid : Prop := Claim7.holds Tryz.pinned (.plain (OpenSpec.upto listBackSpec)) listBackUptoCard

/-- THE SECOND FORM's CARD OF 'deedboxlaw2.ListTells'. -/
def listTellsUptoCard : Claim7 := { stood := { row := listTellsUptoRow, standIns := [], harness := (true, "feac57868d2fefcebad192142d9888a2433fb1a6932cf2ed928ac86e5447ccb0"), looks := true }, kinds := [], alts := [], laidByText := true, laidKinds := [.data, .data, .data, .data, .handle, .sentinel, .sentinel, .sentinel, .sentinel, .sentinel, .sentinel, .sentinel, .sentinel, .sentinel, .sentinel, .sentinel, .sentinel, .sentinel, .sentinel, .pinned], laidTests := true, laidLooks := .later }
def ListTellsUptoCardSaid : Prop := Claim7.holds Tryz.pinned (.plain (OpenSpec.upto listTellsSpec)) listTellsUptoCard

/-- THE SECOND FORM's CARD OF 'deedboxlaw2.SnapBack'. -/
def snapBackUptoCard : Claim7 := { stood := { row := snapBackUptoRow, standIns := [], harness := (true, "feac57868d2fefcebad192142d9888a2433fb1a6932cf2ed928ac86e5447ccb0"), looks := true }, kinds := [], alts := [], laidByText := true, laidKinds := [.data, .data, .data, .data, .handle, .sentinel, .sentinel, .sentinel, .sentinel, .sentinel, .sentinel, .sentinel, .sentinel, .sentinel, .sentinel, .sentinel, .sentinel, .sentinel, .sentinel, .pinned], laidTests := true, laidLooks := .later }
def SnapBackUptoCardSaid : Prop := Claim7.holds Tryz.pinned (.plain (OpenSpec.upto snapBackSpec)) snapBackUptoCard
end Rows
end Go.Proofs.YtpicofkmeijioaaGreatDoor
