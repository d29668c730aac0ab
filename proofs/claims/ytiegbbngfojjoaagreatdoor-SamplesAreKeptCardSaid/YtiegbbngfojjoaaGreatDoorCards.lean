/-
  DERIVED. GIVEN WITH THE SEED: THE CARDS: each row of YtiegbbngfojjoaaGreatDoorRows.lean that lists a variable, with what it lists TIED to the program's text (the seventh form; the later family's looks); each row that meets fmt, with fmt's text TOLD by the authors' own Lean function (tested against real Go, not proved from fmt's source: count such statements apart). THE CARD IS WHAT COUNTS. Prove the row's statement (the work); the ties are given (YtiegbbngfojjoaaGreatDoorTie.lean); close each card by the builder's one call (the guide's Derived/Test/ToyasCard.lean, 'card_holds'). Laid BY PROGRAM, IN A SANDBOX (cutbox-door.mjs). By AI agents, Wed Nov 11 2026. No macro, syntax, notation, axiom, sorry.
-/
import Derived.Test.YtiegbbngfojjoaaGreatDoorRows
import GoSem.ClaimSeven
namespace Go.Proofs.YtiegbbngfojjoaaGreatDoor
namespace Rows

/-- THE TIED CARD OF 'chasekeep2.DesksAreKept'. -/
def desksAreKeptCard : Claim7 := { stood := { row := desksAreKeptRow, standIns := [], harness := (true, "e8e1dbc494c9d7464d330313394c022d1936887c9b1467ed98ac3f9b7c0fd373"), looks := true }, kinds := [], alts := [], laidByText := true, laidKinds := [.data, .data, .data, .data, .sentinel, .sentinel, .listed, .data, .pinned], laidTests := true, laidLooks := .later }
def DesksAreKeptCardSaid : Prop := Claim7.holds Tryz.pinned (.plain (OpenSpec.ofChange desksAreKeptSpec)) desksAreKeptCard

/-- THE TIED CARD OF 'chasekeep2.DesksAreFair'. -/
def desksAreFairCard : Claim7 := { stood := { row := desksAreFairRow, standIns := [], harness := (true, "e8e1dbc494c9d7464d330313394c022d1936887c9b1467ed98ac3f9b7c0fd373"), looks := true }, kinds := [], alts := [], laidByText := true, laidKinds := [.data, .data, .data, .data, .sentinel, .sentinel, .listed, .data, .pinned], laidTests := true, laidLooks := .later }
def DesksAreFairCardSaid : Prop := Claim7.holds Tryz.pinned (.plain (OpenSpec.ofChange desksAreFairSpec)) desksAreFairCard

/-- THE TIED CARD OF 'chasekeep2.ItemsStay'. -/
def itemsStayCard : Claim7 := { stood := { row := itemsStayRow, standIns := [], harness := (true, "e8e1dbc494c9d7464d330313394c022d1936887c9b1467ed98ac3f9b7c0fd373"), looks := true }, kinds := [], alts := [], laidByText := true, laidKinds := [.data, .data, .data, .data, .sentinel, .sentinel, .listed, .data, .pinned], laidTests := true, laidLooks := .later }
def ItemsStayCardSaid : Prop := Claim7.holds Tryz.pinned (.plain (OpenSpec.ofChange itemsStaySpec)) itemsStayCard

/-- THE TIED CARD OF 'chasekeep2.FamiliesAreAll'. -/
def familiesAreAllCard : Claim7 := { stood := { row := familiesAreAllRow, standIns := [], harness := (true, "e8e1dbc494c9d7464d330313394c022d1936887c9b1467ed98ac3f9b7c0fd373"), looks := true }, kinds := [], alts := [], laidByText := true, laidKinds := [.data, .data, .data, .data, .sentinel, .sentinel, .listed, .data, .pinned], laidTests := true, laidLooks := .later }
def FamiliesAreAllCardSaid : Prop := Claim7.holds Tryz.pinned (.plain (OpenSpec.ofChange familiesAreAllSpec)) familiesAreAllCard

/-- THE TIED CARD OF 'chasekeep2.SamplesAreKept'. -/
def samplesAreKeptCard : Claim7 := { stood := { row := samplesAreKeptRow, standIns := [], harness := (true, "e8e1dbc494c9d7464d330313394c022d1936887c9b1467ed98ac3f9b7c0fd373"), looks := true }, kinds := [], alts := [], laidByText := true, laidKinds := [.data, .data, .data, .data, .sentinel, .sentinel, .listed, .data, .pinned], laidTests := true, laidLooks := .later }
def SamplesAreKeptCardSaid : Prop := Claim7.holds Tryz.pinned (.plain (OpenSpec.ofChange samplesAreKeptSpec)) samplesAreKeptCard

/-- THE SECOND FORM's CARD OF 'chasekeep2.DesksAreKept'. -/
def desksAreKeptUptoCard : Claim7 := { stood := { row := desksAreKeptUptoRow, standIns := [], harness := (true, "e8e1dbc494c9d7464d330313394c022d1936887c9b1467ed98ac3f9b7c0fd373"), looks := true }, kinds := [], alts := [], laidByText := true, laidKinds := [.data, .data, .data, .data, .sentinel, .sentinel, .listed, .data, .pinned], laidTests := true, laidLooks := .later }
def DesksAreKeptUptoCardSaid : Prop := Claim7.holds Tryz.pinned (.plain (OpenSpec.upto desksAreKeptSpec)) desksAreKeptUptoCard

/-- THE SECOND FORM's CARD OF 'chasekeep2.DesksAreFair'. -/
def desksAreFairUptoCard : Claim7 := { stood := { row := desksAreFairUptoRow, standIns := [], harness := (true, "e8e1dbc494c9d7464d330313394c022d1936887c9b1467ed98ac3f9b7c0fd373"), looks := true }, kinds := [], alts := [], laidByText := true, laidKinds := [.data, .data, .data, .data, .sentinel, .sentinel, .listed, .data, .pinned], laidTests := true, laidLooks := .later }
def DesksAreFairUptoCardSaid : Prop := Claim7.holds Tryz.pinned (.plain (OpenSpec.upto desksAreFairSpec)) desksAreFairUptoCard

/-- THE SECOND FORM's CARD OF 'chasekeep2.ItemsStay'. -/
def itemsStayUptoCard : Claim7 := { stood := { row := itemsStayUptoRow, standIns := [], harness := (true, "e8e1dbc494c9d7464d330313394c022d1936887c9b1467ed98ac3f9b7c0fd373"), looks := true }, kinds := [], alts := [], laidByText := true, laidKinds := [.data, .data, .data, .data, .sentinel, .sentinel, .listed, .data, .pinned], laidTests := true, laidLooks := .later }
def ItemsStayUptoCardSaid : Prop := Claim7.holds Tryz.pinned (.plain (OpenSpec.upto itemsStaySpec)) itemsStayUptoCard

/-- THE SECOND FORM's CARD OF 'chasekeep2.FamiliesAreAll'. -/
def familiesAreAllUptoCard : Claim7 := { stood := { row := familiesAreAllUptoRow, standIns := [], harness := (true, "e8e1dbc494c9d7464d330313394c022d1936887c9b1467ed98ac3f9b7c0fd373"), looks := true }, kinds := [], alts := [], laidByText := true, laidKinds := [.data, .data, .data, .data, .sentinel, .sentinel, .listed, .data, .pinned], laidTests := true, laidLooks := .later }
def FamiliesAreAllUptoCardSaid : Prop := Claim7.holds Tryz.pinned (.plain (OpenSpec.upto familiesAreAllSpec)) familiesAreAllUptoCard

/-- THE SECOND FORM's CARD OF 'chasekeep2.SamplesAreKept'. -/
def samplesAreKeptUptoCard : Claim7 := { stood := { row := samplesAreKeptUptoRow, standIns := [], harness := (true, "e8e1dbc494c9d7464d330313394c022d1936887c9b1467ed98ac3f9b7c0fd373"), looks := true }, kinds := [], alts := [], laidByText := true, laidKinds := [.data, .data, .data, .data, .sentinel, .sentinel, .listed, .data, .pinned], laidTests := true, laidLooks := .later }
def SamplesAreKeptUptoCardSaid : Prop := Claim7.holds Tryz.pinned (.plain (OpenSpec.upto samplesAreKeptSpec)) samplesAreKeptUptoCard
end Rows
end Go.Proofs.YtiegbbngfojjoaaGreatDoor
