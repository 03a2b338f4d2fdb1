/-
  DERIVED. GIVEN WITH THE SEED: THE CARDS: each row of YtpfohfihkmjnaaaGreatDoorRows.lean that lists a variable, with what it lists TIED to the program's text (the seventh form; the later family's looks); each row that meets fmt, with fmt's text TOLD by the authors' own Lean function (tested against real Go, not proved from fmt's source: count such statements apart). THE CARD IS WHAT COUNTS. Prove the row's statement (the work); the ties are given (YtpfohfihkmjnaaaGreatDoorTie.lean); close each card by the builder's one call (the guide's Derived/Test/ToyasCard.lean, 'card_holds'). Laid BY PROGRAM, IN A SANDBOX (cutbox-door.mjs). By AI agents, Wed Nov 11 2026. No macro, syntax, notation, axiom, sorry.
-/
import Derived.Test.YtpfohfihkmjnaaaGreatDoorRows
import GoSem.ClaimSeven
namespace Go.Proofs.YtpfohfihkmjnaaaGreatDoor
namespace Rows

/-- THE TIED CARD OF 'deedboxlaw3.PackKeeps'. -/
def packKeepsCard : Claim7 := { stood := { row := packKeepsRow, standIns := [], harness := (true, "8282917a943c22f33a724d3a901353db94f808e4cd195bfc80f26dc5110fc9cb"), looks := true }, kinds := [], alts := [], laidByText := true, laidKinds := [.data, .data, .data, .data, .sentinel, .sentinel, .sentinel, .sentinel, .sentinel, .sentinel, .sentinel, .sentinel, .sentinel, .sentinel, .sentinel, .sentinel, .sentinel, .pinned], laidTests := true, laidLooks := .later }
def PackKeepsCardSaid : Prop := Claim7.holds Tryz.pinned (.plain (OpenSpec.ofChange packKeepsSpec)) packKeepsCard

/-- THE TIED CARD OF 'deedboxlaw3.PackIdles'. -/
def packIdlesCard : Claim7 := { stood := { row := packIdlesRow, standIns := [], harness := (true, "8282917a943c22f33a724d3a901353db94f808e4cd195bfc80f26dc5110fc9cb"), looks := true }, kinds := [], alts := [], laidByText := true, laidKinds := [.data, .data, .data, .data, .sentinel, .sentinel, .sentinel, .sentinel, .sentinel, .sentinel, .sentinel, .sentinel, .sentinel, .sentinel, .sentinel, .sentinel, .sentinel, .pinned], laidTests := true, laidLooks := .later }
def PackIdlesCardSaid : Prop := Claim7.holds Tryz.pinned (.plain (OpenSpec.ofChange packIdlesSpec)) packIdlesCard

/-- THE TIED CARD OF 'deedboxlaw3.PackTells'. -/
def packTellsCard : Claim7 := { stood := { row := packTellsRow, standIns := [], harness := (true, "8282917a943c22f33a724d3a901353db94f808e4cd195bfc80f26dc5110fc9cb"), looks := true }, kinds := [], alts := [], laidByText := true, laidKinds := [.data, .data, .data, .data, .handle, .sentinel, .sentinel, .sentinel, .sentinel, .sentinel, .sentinel, .sentinel, .sentinel, .sentinel, .sentinel, .sentinel, .sentinel, .sentinel, .sentinel, .pinned], laidTests := true, laidLooks := .later }
def PackTellsCardSaid : Prop := Claim7.holds Tryz.pinned (.plain (OpenSpec.ofChange packTellsSpec)) packTellsCard

/-- THE SECOND FORM's CARD OF 'deedboxlaw3.PackKeeps'. -/
def packKeepsUptoCard : Claim7 := { stood := { row := packKeepsUptoRow, standIns := [], harness := (true, "8282917a943c22f33a724d3a901353db94f808e4cd195bfc80f26dc5110fc9cb"), looks := true }, kinds := [], alts := [], laidByText := true, laidKinds := [.data, .data, .data, .data, .sentinel, .sentinel, .sentinel, .sentinel, .sentinel, .sentinel, .sentinel, .sentinel, .sentinel, .sentinel, .sentinel, .sentinel, .sentinel, .pinned], laidTests := true, laidLooks := .later }
def PackKeepsUptoCardSaid : Prop := Claim7.holds Tryz.pinned (.plain (OpenSpec.upto packKeepsSpec)) packKeepsUptoCard

/-- THE SECOND FORM's CARD OF 'deedboxlaw3.PackIdles'. -/
def packIdlesUptoCard : Claim7 := { stood := { row := packIdlesUptoRow, standIns := [], harness := (true, "8282917a943c22f33a724d3a901353db94f808e4cd195bfc80f26dc5110fc9cb"), looks := true }, kinds := [], alts := [], laidByText := true, laidKinds := [.data, .data, .data, .data, .sentinel, .sentinel, .sentinel, .sentinel, .sentinel, .sentinel, .sentinel, .sentinel, .sentinel, .sentinel, .sentinel, .sentinel, .sentinel, .pinned], laidTests := true, laidLooks := .later }
def PackIdlesUptoCardSaid : Prop := Claim7.holds Tryz.pinned (.plain (OpenSpec.upto packIdlesSpec)) packIdlesUptoCard

/-- THE SECOND FORM's CARD OF 'deedboxlaw3.PackTells'. -/
def packTellsUptoCard : Claim7 := { stood := { row := packTellsUptoRow, standIns := [], harness := (true, "8282917a943c22f33a724d3a901353db94f808e4cd195bfc80f26dc5110fc9cb"), looks := true }, kinds := [], alts := [], laidByText := true, laidKinds := [.data, .data, .data, .data, .handle, .sentinel, .sentinel, .sentinel, .sentinel, .sentinel, .sentinel, .sentinel, .sentinel, .sentinel, .sentinel, .sentinel, .sentinel, .sentinel, .sentinel, .pinned], laidTests := true, laidLooks := .later }
def PackTellsUptoCardSaid : Prop := Claim7.holds Tryz.pinned (.plain (OpenSpec.upto packTellsSpec)) packTellsUptoCard
end Rows
end Go.Proofs.YtpfohfihkmjnaaaGreatDoor
