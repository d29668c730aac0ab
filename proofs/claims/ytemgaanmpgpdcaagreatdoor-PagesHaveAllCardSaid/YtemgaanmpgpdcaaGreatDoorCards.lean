/-
  DERIVED. GIVEN WITH THE SEED: THE CARDS: each row of YtemgaanmpgpdcaaGreatDoorRows.lean that lists a variable, with what it lists TIED to the program's text (the seventh form; the later family's looks); each row that meets fmt, with fmt's text TOLD by the authors' own Lean function (tested against real Go, not proved from fmt's source: count such statements apart). THE CARD IS WHAT COUNTS. Prove the row's statement (the work); the ties are given (YtemgaanmpgpdcaaGreatDoorTie.lean); close each card by the builder's one call (the guide's Derived/Test/ToyasCard.lean, 'card_holds'). Laid BY PROGRAM, IN A SANDBOX (cutbox-door.mjs). By AI agents, Wed Nov 11 2026. No macro, syntax, notation, axiom, sorry.
-/
import Derived.Test.YtemgaanmpgpdcaaGreatDoorRows
import GoSem.ClaimSeven
namespace Go.Proofs.YtemgaanmpgpdcaaGreatDoor
namespace Rows

/-- THE TIED CARD OF 'chasekeep1.LoadsReadBack'. -/
def loadsReadBackCard : Claim7 := { stood := { row := loadsReadBackRow, standIns := [], harness := (true, "eb0194b2a5fe7611b0f678d0c5ae49e47c7315dc7994adcece304a925e98f2a6"), looks := true }, kinds := [], alts := [], laidByText := true, laidKinds := [.data, .data, .data, .data, .pinned], laidTests := true, laidLooks := .later }
def LoadsReadBackCardSaid : Prop := Claim7.holds Tryz.pinned (.plain (OpenSpec.ofChange loadsReadBackSpec)) loadsReadBackCard

/-- THE TIED CARD OF 'chasekeep1.PagesHaveAll'. -/
def pagesHaveAllCard : Claim7 := { stood := { row := pagesHaveAllRow, standIns := [], harness := (true, "eb0194b2a5fe7611b0f678d0c5ae49e47c7315dc7994adcece304a925e98f2a6"), looks := true }, kinds := [], alts := [], laidByText := true, laidKinds := [.data, .data, .data, .data, .pinned], laidTests := true, laidLooks := .later }
def PagesHaveAllCardSaid : Prop := Claim7.holds Tryz.pinned (.plain (OpenSpec.ofChange pagesHaveAllSpec)) pagesHaveAllCard

/-- THE SECOND FORM's CARD OF 'chasekeep1.LoadsReadBack'. -/
def loadsReadBackUptoCard : Claim7 := { stood := { row := loadsReadBackUptoRow, standIns := [], harness := (true, "eb0194b2a5fe7611b0f678d0c5ae49e47c7315dc7994adcece304a925e98f2a6"), looks := true }, kinds := [], alts := [], laidByText := true, laidKinds := [.data, .data, .data, .data, .pinned], laidTests := true, laidLooks := .later }
def LoadsReadBackUptoCardSaid : Prop := Claim7.holds Tryz.pinned (.plain (OpenSpec.upto loadsReadBackSpec)) loadsReadBackUptoCard

/-- THE SECOND FORM's CARD OF 'chasekeep1.PagesHaveAll'. -/
def pagesHaveAllUptoCard : Claim7 := { stood := { row := pagesHaveAllUptoRow, standIns := [], harness := (true, "eb0194b2a5fe7611b0f678d0c5ae49e47c7315dc7994adcece304a925e98f2a6"), looks := true }, kinds := [], alts := [], laidByText := true, laidKinds := [.data, .data, .data, .data, .pinned], laidTests := true, laidLooks := .later }
def PagesHaveAllUptoCardSaid : Prop := Claim7.holds Tryz.pinned (.plain (OpenSpec.upto pagesHaveAllSpec)) pagesHaveAllUptoCard
end Rows
end Go.Proofs.YtemgaanmpgpdcaaGreatDoor
