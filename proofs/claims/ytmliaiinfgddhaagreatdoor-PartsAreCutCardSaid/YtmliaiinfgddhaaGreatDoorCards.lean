/-
  DERIVED. GIVEN WITH THE SEED: THE CARDS: each row of YtmliaiinfgddhaaGreatDoorRows.lean that lists a variable, with what it lists TIED to the program's text (the seventh form; the later family's looks); each row that meets fmt, with fmt's text TOLD by the authors' own Lean function (tested against real Go, not proved from fmt's source: count such statements apart). THE CARD IS WHAT COUNTS. Prove the row's statement (the work); the ties are given (YtmliaiinfgddhaaGreatDoorTie.lean); close each card by the builder's one call (the guide's Derived/Test/ToyasCard.lean, 'card_holds'). Laid BY PROGRAM, IN A SANDBOX (cutbox-door.mjs). By AI agents, Wed Nov 11 2026. No macro, syntax, notation, axiom, sorry.
-/
import Derived.Test.YtmliaiinfgddhaaGreatDoorRows
import GoSem.ClaimSeven
namespace Go.Proofs.YtmliaiinfgddhaaGreatDoor
namespace Rows

/-- THE TIED CARD OF 'chasekeep2.PartsAreCut'. -/
def partsAreCutCard : Claim7 := { stood := { row := partsAreCutRow, standIns := [], harness := (true, "f593f5df64dca22808bb1480dea3049ac52edf285395ead9e66b87b0fcadc7a7"), looks := true }, kinds := [], alts := [], laidByText := true, laidKinds := [.data, .data, .data, .data, .sentinel, .sentinel, .listed, .data, .pinned], laidTests := true, laidLooks := .later }
def PartsAreCutCardSaid : Prop := Claim7.holds Tryz.pinned (.plain (OpenSpec.ofChange partsAreCutSpec)) partsAreCutCard

/-- THE TIED CARD OF 'chasekeep2.BoundsHold'. -/
def boundsHoldCard : Claim7 := { stood := { row := boundsHoldRow, standIns := [], harness := (true, "f593f5df64dca22808bb1480dea3049ac52edf285395ead9e66b87b0fcadc7a7"), looks := true }, kinds := [], alts := [], laidByText := true, laidKinds := [.data, .data, .data, .data, .sentinel, .sentinel, .listed, .data, .pinned], laidTests := true, laidLooks := .later }
def BoundsHoldCardSaid : Prop := Claim7.holds Tryz.pinned (.plain (OpenSpec.ofChange boundsHoldSpec)) boundsHoldCard

/-- THE TIED CARD OF 'chasekeep2.EnoughIsLeast'. -/
def enoughIsLeastCard : Claim7 := { stood := { row := enoughIsLeastRow, standIns := [], harness := (true, "f593f5df64dca22808bb1480dea3049ac52edf285395ead9e66b87b0fcadc7a7"), looks := true }, kinds := [], alts := [], laidByText := true, laidKinds := [.data, .data, .data, .data, .sentinel, .sentinel, .listed, .data, .pinned], laidTests := true, laidLooks := .later }
def EnoughIsLeastCardSaid : Prop := Claim7.holds Tryz.pinned (.plain (OpenSpec.ofChange enoughIsLeastSpec)) enoughIsLeastCard

/-- THE TIED CARD OF 'chasekeep2.NumbersAddUp'. -/
def numbersAddUpCard : Claim7 := { stood := { row := numbersAddUpRow, standIns := [], harness := (true, "f593f5df64dca22808bb1480dea3049ac52edf285395ead9e66b87b0fcadc7a7"), looks := true }, kinds := [], alts := [], laidByText := true, laidKinds := [.data, .data, .data, .data, .sentinel, .sentinel, .listed, .data, .pinned], laidTests := true, laidLooks := .later }
def NumbersAddUpCardSaid : Prop := Claim7.holds Tryz.pinned (.plain (OpenSpec.ofChange numbersAddUpSpec)) numbersAddUpCard

/-- THE SECOND FORM's CARD OF 'chasekeep2.PartsAreCut'. -/
def partsAreCutUptoCard : Claim7 := { stood := { row := partsAreCutUptoRow, standIns := [], harness := (true, "f593f5df64dca22808bb1480dea3049ac52edf285395ead9e66b87b0fcadc7a7"), looks := true }, kinds := [], alts := [], laidByText := true, laidKinds := [.data, .data, .data, .data, .sentinel, .sentinel, .listed, .data, .pinned], laidTests := true, laidLooks := .later }
def PartsAreCutUptoCardSaid : Prop := Claim7.holds Tryz.pinned (.plain (OpenSpec.upto partsAreCutSpec)) partsAreCutUptoCard

/-- THE SECOND FORM's CARD OF 'chasekeep2.BoundsHold'. -/
def boundsHoldUptoCard : Claim7 := { stood := { row := boundsHoldUptoRow, standIns := [], harness := (true, "f593f5df64dca22808bb1480dea3049ac52edf285395ead9e66b87b0fcadc7a7"), looks := true }, kinds := [], alts := [], laidByText := true, laidKinds := [.data, .data, .data, .data, .sentinel, .sentinel, .listed, .data, .pinned], laidTests := true, laidLooks := .later }
def BoundsHoldUptoCardSaid : Prop := Claim7.holds Tryz.pinned (.plain (OpenSpec.upto boundsHoldSpec)) boundsHoldUptoCard

/-- THE SECOND FORM's CARD OF 'chasekeep2.EnoughIsLeast'. -/
def enoughIsLeastUptoCard : Claim7 := { stood := { row := enoughIsLeastUptoRow, standIns := [], harness := (true, "f593f5df64dca22808bb1480dea3049ac52edf285395ead9e66b87b0fcadc7a7"), looks := true }, kinds := [], alts := [], laidByText := true, laidKinds := [.data, .data, .data, .data, .sentinel, .sentinel, .listed, .data, .pinned], laidTests := true, laidLooks := .later }
def EnoughIsLeastUptoCardSaid : Prop := Claim7.holds Tryz.pinned (.plain (OpenSpec.upto enoughIsLeastSpec)) enoughIsLeastUptoCard

/-- THE SECOND FORM's CARD OF 'chasekeep2.NumbersAddUp'. -/
def numbersAddUpUptoCard : Claim7 := { stood := { row := numbersAddUpUptoRow, standIns := [], harness := (true, "f593f5df64dca22808bb1480dea3049ac52edf285395ead9e66b87b0fcadc7a7"), looks := true }, kinds := [], alts := [], laidByText := true, laidKinds := [.data, .data, .data, .data, .sentinel, .sentinel, .listed, .data, .pinned], laidTests := true, laidLooks := .later }
def NumbersAddUpUptoCardSaid : Prop := Claim7.holds Tryz.pinned (.plain (OpenSpec.upto numbersAddUpSpec)) numbersAddUpUptoCard
end Rows
end Go.Proofs.YtmliaiinfgddhaaGreatDoor
