/-
  DERIVED. GIVEN WITH THE SEED: THE CARDS: each row of YtmaimojpjepmjaaGreatDoorRows.lean that lists a variable, with what it lists TIED to the program's text (the seventh form; the later family's looks); each row that meets fmt, with fmt's text TOLD by the authors' own Lean function (tested against real Go, not proved from fmt's source: count such statements apart). THE CARD IS WHAT COUNTS. Prove the row's statement (the work); the ties are given (YtmaimojpjepmjaaGreatDoorTie.lean); close each card by the builder's one call (the guide's Derived/Test/ToyasCard.lean, 'card_holds'). Laid BY PROGRAM, IN A SANDBOX (cutbox-door.mjs). By AI agents, Wed Nov 11 2026. No macro, syntax, notation, axiom, sorry.
-/
import Derived.Test.YtmaimojpjepmjaaGreatDoorRows
import GoSem.ClaimSeven
namespace Go.Proofs.YtmaimojpjepmjaaGreatDoor
namespace Rows

/-- THE TIED CARD OF 'chasekeep1.OwnIsSaid'. -/
def ownIsSaidCard : Claim7 := { stood := { row := ownIsSaidRow, standIns := [], harness := (true, "37be41394631e659dbedb1a107a213c966dd070463e8319424157d51893568e5"), looks := false }, kinds := [], alts := [], laidByText := true, laidKinds := [.data, .listed, .data, .pinned], laidTests := true, laidLooks := .later }
def OwnIsSaidCardSaid : Prop := Claim7.holds Tryz.pinned (.plain (OpenSpec.ofChange ownIsSaidSpec)) ownIsSaidCard

/-- THE TIED CARD OF 'chasekeep1.WordsStay'. -/
def wordsStayCard : Claim7 := { stood := { row := wordsStayRow, standIns := [], harness := (true, "37be41394631e659dbedb1a107a213c966dd070463e8319424157d51893568e5"), looks := false }, kinds := [], alts := [], laidByText := true, laidKinds := [.data, .pinned], laidTests := true, laidLooks := .later }
def WordsStayCardSaid : Prop := Claim7.holds Tryz.pinned (.plain (OpenSpec.ofChange wordsStaySpec)) wordsStayCard

/-- THE SECOND FORM's CARD OF 'chasekeep1.OwnIsSaid'. -/
def ownIsSaidUptoCard : Claim7 := { stood := { row := ownIsSaidUptoRow, standIns := [], harness := (true, "37be41394631e659dbedb1a107a213c966dd070463e8319424157d51893568e5"), looks := false }, kinds := [], alts := [], laidByText := true, laidKinds := [.data, .listed, .data, .pinned], laidTests := true, laidLooks := .later }
def OwnIsSaidUptoCardSaid : Prop := Claim7.holds Tryz.pinned (.plain (OpenSpec.upto ownIsSaidSpec)) ownIsSaidUptoCard

/-- THE SECOND FORM's CARD OF 'chasekeep1.WordsStay'. -/
def wordsStayUptoCard : Claim7 := { stood := { row := wordsStayUptoRow, standIns := [], harness := (true, "37be41394631e659dbedb1a107a213c966dd070463e8319424157d51893568e5"), looks := false }, kinds := [], alts := [], laidByText := true, laidKinds := [.data, .pinned], laidTests := true, laidLooks := .later }
def WordsStayUptoCardSaid : Prop := Claim7.holds Tryz.pinned (.plain (OpenSpec.upto wordsStaySpec)) wordsStayUptoCard
end Rows
end Go.Proofs.YtmaimojpjepmjaaGreatDoor
