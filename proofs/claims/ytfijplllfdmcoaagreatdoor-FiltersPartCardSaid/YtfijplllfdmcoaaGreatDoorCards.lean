/-
  DERIVED. GIVEN WITH THE SEED: THE CARDS: each row of YtfijplllfdmcoaaGreatDoorRows.lean that lists a variable, with what it lists TIED to the program's text (the seventh form; the later family's looks); each row that meets fmt, with fmt's text TOLD by the authors' own Lean function (tested against real Go, not proved from fmt's source: count such statements apart). THE CARD IS WHAT COUNTS. Prove the row's statement (the work); the ties are given (YtfijplllfdmcoaaGreatDoorTie.lean); close each card by the builder's one call (the guide's Derived/Test/ToyasCard.lean, 'card_holds'). Laid BY PROGRAM, IN A SANDBOX (cutbox-door.mjs). By AI agents, Wed Nov 11 2026. No macro, syntax, notation, axiom, sorry.
-/
import Derived.Test.YtfijplllfdmcoaaGreatDoorRows
import GoSem.ClaimSeven
namespace Go.Proofs.YtfijplllfdmcoaaGreatDoor
namespace Rows

/-- THE TIED CARD OF 'chasekeep2.FiltersPart'. -/
def filtersPartCard : Claim7 := { stood := { row := filtersPartRow, standIns := [], harness := (true, "03b34d87ae0ce6e4e71204ae2c7fa119de78b72f95290b17c716f0a3ff4a6d20"), looks := true }, kinds := [], alts := [], laidByText := true, laidKinds := [.data, .data, .data, .data, .sentinel, .sentinel, .listed, .data, .pinned], laidTests := true, laidLooks := .later }
def FiltersPartCardSaid : Prop := Claim7.holds Tryz.pinned (.plain (OpenSpec.ofChange filtersPartSpec)) filtersPartCard

/-- THE TIED CARD OF 'chasekeep2.ItemsAreKept'. -/
def itemsAreKeptCard : Claim7 := { stood := { row := itemsAreKeptRow, standIns := [], harness := (true, "03b34d87ae0ce6e4e71204ae2c7fa119de78b72f95290b17c716f0a3ff4a6d20"), looks := true }, kinds := [], alts := [], laidByText := true, laidKinds := [.data, .data, .data, .data, .sentinel, .sentinel, .listed, .data, .pinned], laidTests := true, laidLooks := .later }
def ItemsAreKeptCardSaid : Prop := Claim7.holds Tryz.pinned (.plain (OpenSpec.ofChange itemsAreKeptSpec)) itemsAreKeptCard

/-- THE SECOND FORM's CARD OF 'chasekeep2.FiltersPart'. -/
def filtersPartUptoCard : Claim7 := { stood := { row := filtersPartUptoRow, standIns := [], harness := (true, "03b34d87ae0ce6e4e71204ae2c7fa119de78b72f95290b17c716f0a3ff4a6d20"), looks := true }, kinds := [], alts := [], laidByText := true, laidKinds := [.data, .data, .data, .data, .sentinel, .sentinel, .listed, .data, .pinned], laidTests := true, laidLooks := .later }
def FiltersPartUptoCardSaid : Prop := Claim7.holds Tryz.pinned (.plain (OpenSpec.upto filtersPartSpec)) filtersPartUptoCard

/-- THE SECOND FORM's CARD OF 'chasekeep2.ItemsAreKept'. -/
def itemsAreKeptUptoCard : Claim7 := { stood := { row := itemsAreKeptUptoRow, standIns := [], harness := (true, "03b34d87ae0ce6e4e71204ae2c7fa119de78b72f95290b17c716f0a3ff4a6d20"), looks := true }, kinds := [], alts := [], laidByText := true, laidKinds := [.data, .data, .data, .data, .sentinel, .sentinel, .listed, .data, .pinned], laidTests := true, laidLooks := .later }
def ItemsAreKeptUptoCardSaid : Prop := Claim7.holds Tryz.pinned (.plain (OpenSpec.upto itemsAreKeptSpec)) itemsAreKeptUptoCard
end Rows
end Go.Proofs.YtfijplllfdmcoaaGreatDoor
