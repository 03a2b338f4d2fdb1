/-
  DERIVED. GIVEN WITH THE SEED: THE CARDS: each row of YtpicofkmeijioaaDoorRows.lean that lists a variable, with what it lists TIED to the program's text (the seventh form; the later family's looks); each row that meets fmt, with fmt's text TOLD by the authors' own Lean function (tested against real Go, not proved from fmt's source: count such statements apart). THE CARD IS WHAT COUNTS. Prove the row's statement (the work); the ties are given (YtpicofkmeijioaaDoorTie.lean); close each card by the builder's one call (the guide's Derived/Test/ToyasCard.lean, 'card_holds'). Laid BY PROGRAM, IN A SANDBOX (cutbox-door.mjs). By AI agents, Wed Nov 11 2026. No macro, syntax, notation, axiom, sorry.
-/
import Derived.Test.YtpicofkmeijioaaDoorRows
import GoSem.ClaimSeven
namespace Go.Proofs.YtpicofkmeijioaaDoor
namespace Rows

/-- THE TIED CARD OF 'deedboxlaw2.ListAny'. -/
def listAnyCard : Claim7 := { stood := { row := listAnyRow, standIns := [], harness := (true, "116376a8f35f171354a3a99ef1743cc7e8aed37bd9699aac9626b3c2037a2a4f"), looks := true }, kinds := [], alts := [], laidByText := true, laidKinds := [.data, .data, .data, .data, .sentinel, .sentinel, .sentinel, .sentinel, .sentinel, .sentinel, .sentinel, .sentinel, .sentinel, .pinned], laidTests := true, laidLooks := .later }
def ListAnyCardSaid : Prop := Claim7.holds Tryd.pinned (.plain (OpenSpec.ofChange listAnySpec)) listAnyCard

/-- THE SECOND FORM's CARD OF 'deedboxlaw2.ListAny'. -/
def listAnyUptoCard : Claim7 := { stood := { row := listAnyUptoRow, standIns := [], harness := (true, "116376a8f35f171354a3a99ef1743cc7e8aed37bd9699aac9626b3c2037a2a4f"), looks := true }, kinds := [], alts := [], laidByText := true, laidKinds := [.data, .data, .data, .data, .sentinel, .sentinel, .sentinel, .sentinel, .sentinel, .sentinel, .sentinel, .sentinel, .sentinel, .pinned], laidTests := true, laidLooks := .later }
def ListAnyUptoCardSaid : Prop := Claim7.holds Tryd.pinned (.plain (OpenSpec.upto listAnySpec)) listAnyUptoCard
end Rows
end Go.Proofs.YtpicofkmeijioaaDoor
