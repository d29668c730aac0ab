/-
  DERIVED. GIVEN WITH THE SEED: THE CARDS: each row of YtabdjkcediolcaaGreatDoorRows.lean that lists a variable, with what it lists TIED to the program's text (the seventh form; the later family's looks); each row that meets fmt, with fmt's text TOLD by the authors' own Lean function (tested against real Go, not proved from fmt's source: count such statements apart). THE CARD IS WHAT COUNTS. Prove the row's statement (the work); the ties are given (YtabdjkcediolcaaGreatDoorTie.lean); close each card by the builder's one call (the guide's Derived/Test/ToyasCard.lean, 'card_holds'). Laid BY PROGRAM, IN A SANDBOX (cutbox-door.mjs). By AI agents, Wed Nov 11 2026. No macro, syntax, notation, axiom, sorry.
-/
import Derived.Test.YtabdjkcediolcaaGreatDoorRows
import GoSem.ClaimSeven
namespace Go.Proofs.YtabdjkcediolcaaGreatDoor
namespace Rows

/-- THE TIED CARD OF 'chasekeep1.CommonIsStripped'. -/
def commonIsStrippedCard : Claim7 := { stood := { row := commonIsStrippedRow, standIns := [], harness := (true, "844ed58714b8e700326be8e4ce38d57a8a035aef9a5cc5b75f0c4bcda36978b4"), looks := false }, kinds := [], alts := [], laidByText := true, laidKinds := [.data, .pinned], laidTests := true, laidLooks := .later }
def CommonIsStrippedCardSaid : Prop := Claim7.holds Tryz.pinned (.plain (OpenSpec.ofChange commonIsStrippedSpec)) commonIsStrippedCard

/-- THE TIED CARD OF 'chasekeep1.GroupsPart'. -/
def groupsPartCard : Claim7 := { stood := { row := groupsPartRow, standIns := [], harness := (true, "844ed58714b8e700326be8e4ce38d57a8a035aef9a5cc5b75f0c4bcda36978b4"), looks := false }, kinds := [], alts := [], laidByText := true, laidKinds := [.data, .pinned], laidTests := true, laidLooks := .later }
def GroupsPartCardSaid : Prop := Claim7.holds Tryz.pinned (.plain (OpenSpec.ofChange groupsPartSpec)) groupsPartCard

/-- THE SECOND FORM's CARD OF 'chasekeep1.CommonIsStripped'. -/
def commonIsStrippedUptoCard : Claim7 := { stood := { row := commonIsStrippedUptoRow, standIns := [], harness := (true, "844ed58714b8e700326be8e4ce38d57a8a035aef9a5cc5b75f0c4bcda36978b4"), looks := false }, kinds := [], alts := [], laidByText := true, laidKinds := [.data, .pinned], laidTests := true, laidLooks := .later }
def CommonIsStrippedUptoCardSaid : Prop := Claim7.holds Tryz.pinned (.plain (OpenSpec.upto commonIsStrippedSpec)) commonIsStrippedUptoCard

/-- THE SECOND FORM's CARD OF 'chasekeep1.GroupsPart'. -/
def groupsPartUptoCard : Claim7 := { stood := { row := groupsPartUptoRow, standIns := [], harness := (true, "844ed58714b8e700326be8e4ce38d57a8a035aef9a5cc5b75f0c4bcda36978b4"), looks := false }, kinds := [], alts := [], laidByText := true, laidKinds := [.data, .pinned], laidTests := true, laidLooks := .later }
def GroupsPartUptoCardSaid : Prop := Claim7.holds Tryz.pinned (.plain (OpenSpec.upto groupsPartSpec)) groupsPartUptoCard
end Rows
end Go.Proofs.YtabdjkcediolcaaGreatDoor
