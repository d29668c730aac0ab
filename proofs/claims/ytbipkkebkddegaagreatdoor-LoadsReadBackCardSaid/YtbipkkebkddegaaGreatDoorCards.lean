/-
  DERIVED. GIVEN WITH THE SEED: THE CARDS: each row of YtbipkkebkddegaaGreatDoorRows.lean that lists a variable, with what it lists TIED to the program's text (the seventh form; the later family's looks); each row that meets fmt, with fmt's text TOLD by the authors' own Lean function (tested against real Go, not proved from fmt's source: count such statements apart). THE CARD IS WHAT COUNTS. Prove the row's statement (the work); the ties are given (YtbipkkebkddegaaGreatDoorTie.lean); close each card by the builder's one call (the guide's Derived/Test/ToyasCard.lean, 'card_holds'). Laid BY PROGRAM, IN A SANDBOX (cutbox-door.mjs). By AI agents, Wed Nov 11 2026. No macro, syntax, notation, axiom, sorry.
-/
import Derived.Test.YtbipkkebkddegaaGreatDoorRows
import GoSem.ClaimSeven
namespace Go.Proofs.YtbipkkebkddegaaGreatDoor
namespace Rows

/-- THE TIED CARD OF 'chasekeep1.LoadsReadBack'. -/
def loadsReadBackCard : Claim7 := { stood := { row := loadsReadBackRow, standIns := [], harness := (true, "efc8009f2bb3098aa4ddd4d1fc26b9c6294272e2d8f1be8feea69a667f06a928"), looks := true }, kinds := [], alts := [], laidByText := true, laidKinds := [.data, .data, .data, .data, .pinned], laidTests := true, laidLooks := .later }
def LoadsReadBackCardSaid : Prop := Claim7.holds Tryz.pinned (.plain (OpenSpec.ofChange loadsReadBackSpec)) loadsReadBackCard

/-- THE TIED CARD OF 'chasekeep1.VolumesAreWhole'. -/
def volumesAreWholeCard : Claim7 := { stood := { row := volumesAreWholeRow, standIns := [], harness := (true, "efc8009f2bb3098aa4ddd4d1fc26b9c6294272e2d8f1be8feea69a667f06a928"), looks := true }, kinds := [], alts := [], laidByText := true, laidKinds := [.data, .data, .data, .data, .pinned], laidTests := true, laidLooks := .later }
def VolumesAreWholeCardSaid : Prop := Claim7.holds Tryz.pinned (.plain (OpenSpec.ofChange volumesAreWholeSpec)) volumesAreWholeCard

/-- THE TIED CARD OF 'chasekeep1.RecalledIsGone'. -/
def recalledIsGoneCard : Claim7 := { stood := { row := recalledIsGoneRow, standIns := [], harness := (true, "efc8009f2bb3098aa4ddd4d1fc26b9c6294272e2d8f1be8feea69a667f06a928"), looks := true }, kinds := [], alts := [], laidByText := true, laidKinds := [.data, .data, .data, .data, .pinned], laidTests := true, laidLooks := .later }
def RecalledIsGoneCardSaid : Prop := Claim7.holds Tryz.pinned (.plain (OpenSpec.ofChange recalledIsGoneSpec)) recalledIsGoneCard

/-- THE SECOND FORM's CARD OF 'chasekeep1.LoadsReadBack'. -/
def loadsReadBackUptoCard : Claim7 := { stood := { row := loadsReadBackUptoRow, standIns := [], harness := (true, "efc8009f2bb3098aa4ddd4d1fc26b9c6294272e2d8f1be8feea69a667f06a928"), looks := true }, kinds := [], alts := [], laidByText := true, laidKinds := [.data, .data, .data, .data, .pinned], laidTests := true, laidLooks := .later }
def LoadsReadBackUptoCardSaid : Prop := Claim7.holds Tryz.pinned (.plain (OpenSpec.upto loadsReadBackSpec)) loadsReadBackUptoCard

/-- THE SECOND FORM's CARD OF 'chasekeep1.VolumesAreWhole'. -/
def volumesAreWholeUptoCard : Claim7 := { stood := { row := volumesAreWholeUptoRow, standIns := [], harness := (true, "efc8009f2bb3098aa4ddd4d1fc26b9c6294272e2d8f1be8feea69a667f06a928"), looks := true }, kinds := [], alts := [], laidByText := true, laidKinds := [.data, .data, .data, .data, .pinned], laidTests := true, laidLooks := .later }
def VolumesAreWholeUptoCardSaid : Prop := Claim7.holds Tryz.pinned (.plain (OpenSpec.upto volumesAreWholeSpec)) volumesAreWholeUptoCard

/-- THE SECOND FORM's CARD OF 'chasekeep1.RecalledIsGone'. -/
def recalledIsGoneUptoCard : Claim7 := { stood := { row := recalledIsGoneUptoRow, standIns := [], harness := (true, "efc8009f2bb3098aa4ddd4d1fc26b9c6294272e2d8f1be8feea69a667f06a928"), looks := true }, kinds := [], alts := [], laidByText := true, laidKinds := [.data, .data, .data, .data, .pinned], laidTests := true, laidLooks := .later }
def RecalledIsGoneUptoCardSaid : Prop := Claim7.holds Tryz.pinned (.plain (OpenSpec.upto recalledIsGoneSpec)) recalledIsGoneUptoCard
end Rows
end Go.Proofs.YtbipkkebkddegaaGreatDoor
