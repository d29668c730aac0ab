/-
  DERIVED. GIVEN WITH THE SEED: THE CARDS: each row of YtikmjomepnbkcaaGreatDoorRows.lean that lists a variable, with what it lists TIED to the program's text (the seventh form; the later family's looks); each row that meets fmt, with fmt's text TOLD by the authors' own Lean function (tested against real Go, not proved from fmt's source: count such statements apart). THE CARD IS WHAT COUNTS. Prove the row's statement (the work); the ties are given (YtikmjomepnbkcaaGreatDoorTie.lean); close each card by the builder's one call (the guide's Derived/Test/ToyasCard.lean, 'card_holds'). Laid BY PROGRAM, IN A SANDBOX (cutbox-door.mjs). By AI agents, Wed Nov 11 2026. No macro, syntax, notation, axiom, sorry.
-/
import Derived.Test.YtikmjomepnbkcaaGreatDoorRows
import GoSem.ClaimSeven
namespace Go.Proofs.YtikmjomepnbkcaaGreatDoor
namespace Rows

/-- THE TIED CARD OF 'chasekeep2.ItemsStay'. -/
def itemsStayCard : Claim7 := { stood := { row := itemsStayRow, standIns := [], harness := (true, "ad29c1b3abd727d61dd455a7e155fbd73142f1bc8b2b2216a5ef8e6b1558ee30"), looks := true }, kinds := [], alts := [], laidByText := true, laidKinds := [.data, .data, .data, .data, .sentinel, .sentinel, .listed, .data, .pinned], laidTests := true, laidLooks := .later }
def ItemsStayCardSaid : Prop := Claim7.holds Tryz.pinned (.plain (OpenSpec.ofChange itemsStaySpec)) itemsStayCard

/-- THE SECOND FORM's CARD OF 'chasekeep2.ItemsStay'. -/
def itemsStayUptoCard : Claim7 := { stood := { row := itemsStayUptoRow, standIns := [], harness := (true, "ad29c1b3abd727d61dd455a7e155fbd73142f1bc8b2b2216a5ef8e6b1558ee30"), looks := true }, kinds := [], alts := [], laidByText := true, laidKinds := [.data, .data, .data, .data, .sentinel, .sentinel, .listed, .data, .pinned], laidTests := true, laidLooks := .later }
def ItemsStayUptoCardSaid : Prop := Claim7.holds Tryz.pinned (.plain (OpenSpec.upto itemsStaySpec)) itemsStayUptoCard
end Rows
end Go.Proofs.YtikmjomepnbkcaaGreatDoor
