/-
  DERIVED. GIVEN WITH THE SEED: THE CARDS: each row of YtdojnbnhogbhiaaGreatDoorRows.lean that lists a variable, with what it lists TIED to the program's text (the seventh form; the later family's looks); each row that meets fmt, with fmt's text TOLD by the authors' own Lean function (tested against real Go, not proved from fmt's source: count such statements apart). THE CARD IS WHAT COUNTS. Prove the row's statement (the work); the ties are given (YtdojnbnhogbhiaaGreatDoorTie.lean); close each card by the builder's one call (the guide's Derived/Test/ToyasCard.lean, 'card_holds'). Laid BY PROGRAM, IN A SANDBOX (cutbox-door.mjs). By AI agents, Wed Nov 11 2026. No macro, syntax, notation, axiom, sorry.
-/
import Derived.Test.YtdojnbnhogbhiaaGreatDoorRows
import GoSem.ClaimSeven
namespace Go.Proofs.YtdojnbnhogbhiaaGreatDoor
namespace Rows

/-- THE TIED CARD OF 'chasekeep2.DesksAreKept'. -/
def desksAreKeptCard : Claim7 := { stood := { row := desksAreKeptRow, standIns := [], harness := (true, "2c54086551c9fea20da48d595c164a25c3a5739aacad7560e88d7f1d0e02acdb"), looks := true }, kinds := [], alts := [], laidByText := true, laidKinds := [.data, .data, .data, .data, .sentinel, .sentinel, .listed, .data, .pinned], laidTests := true, laidLooks := .later }
def DesksAreKeptCardSaid : Prop := Claim7.holds Tryz.pinned (.plain (OpenSpec.ofChange desksAreKeptSpec)) desksAreKeptCard

/-- THE TIED CARD OF 'chasekeep2.DesksAreFair'. -/
def desksAreFairCard : Claim7 := { stood := { row := desksAreFairRow, standIns := [], harness := (true, "2c54086551c9fea20da48d595c164a25c3a5739aacad7560e88d7f1d0e02acdb"), looks := true }, kinds := [], alts := [], laidByText := true, laidKinds := [.data, .data, .data, .data, .sentinel, .sentinel, .listed, .data, .pinned], laidTests := true, laidLooks := .later }
def DesksAreFairCardSaid : Prop := Claim7.holds Tryz.pinned (.plain (OpenSpec.ofChange desksAreFairSpec)) desksAreFairCard

/-- THE SECOND FORM's CARD OF 'chasekeep2.DesksAreKept'. -/
def desksAreKeptUptoCard : Claim7 := { stood := { row := desksAreKeptUptoRow, standIns := [], harness := (true, "2c54086551c9fea20da48d595c164a25c3a5739aacad7560e88d7f1d0e02acdb"), looks := true }, kinds := [], alts := [], laidByText := true, laidKinds := [.data, .data, .data, .data, .sentinel, .sentinel, .listed, .data, .pinned], laidTests := true, laidLooks := .later }
def DesksAreKeptUptoCardSaid : Prop := Claim7.holds Tryz.pinned (.plain (OpenSpec.upto desksAreKeptSpec)) desksAreKeptUptoCard

/-- THE SECOND FORM's CARD OF 'chasekeep2.DesksAreFair'. -/
def desksAreFairUptoCard : Claim7 := { stood := { row := desksAreFairUptoRow, standIns := [], harness := (true, "2c54086551c9fea20da48d595c164a25c3a5739aacad7560e88d7f1d0e02acdb"), looks := true }, kinds := [], alts := [], laidByText := true, laidKinds := [.data, .data, .data, .data, .sentinel, .sentinel, .listed, .data, .pinned], laidTests := true, laidLooks := .later }
def DesksAreFairUptoCardSaid : Prop := Claim7.holds Tryz.pinned (.plain (OpenSpec.upto desksAreFairSpec)) desksAreFairUptoCard
end Rows
end Go.Proofs.YtdojnbnhogbhiaaGreatDoor
