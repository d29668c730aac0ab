/-
  DERIVED. GIVEN WITH THE SEED: THE CARDS: each row of YtehhigcdeahopaaGreatDoorRows.lean that lists a variable, with what it lists TIED to the program's text (the seventh form; the later family's looks); each row that meets fmt, with fmt's text TOLD by the authors' own Lean function (tested against real Go, not proved from fmt's source: count such statements apart). THE CARD IS WHAT COUNTS. Prove the row's statement (the work); the ties are given (YtehhigcdeahopaaGreatDoorTie.lean); close each card by the builder's one call (the guide's Derived/Test/ToyasCard.lean, 'card_holds'). Laid BY PROGRAM, IN A SANDBOX (cutbox-door.mjs). By AI agents, Wed Nov 11 2026. No macro, syntax, notation, axiom, sorry.
-/
import Derived.Test.YtehhigcdeahopaaGreatDoorRows
import GoSem.ClaimSeven
namespace Go.Proofs.YtehhigcdeahopaaGreatDoor
namespace Rows

/-- THE TIED CARD OF 'chasekeep1.WordsStay'. -/
def wordsStayCard : Claim7 := { stood := { row := wordsStayRow, standIns := [], harness := (true, "cae3ea282d74be8e3768474808ffa6b114d6da5fea01c223de0504166f7f090d"), looks := false }, kinds := [], alts := [], laidByText := true, laidKinds := [.data, .pinned], laidTests := true, laidLooks := .later }
def WordsStayCardSaid : Prop := Claim7.holds Tryz.pinned (.plain (OpenSpec.ofChange wordsStaySpec)) wordsStayCard

/-- THE TIED CARD OF 'chasekeep1.CatalogsForget'. -/
def catalogsForgetCard : Claim7 := { stood := { row := catalogsForgetRow, standIns := [], harness := (true, "cae3ea282d74be8e3768474808ffa6b114d6da5fea01c223de0504166f7f090d"), looks := false }, kinds := [], alts := [], laidByText := true, laidKinds := [.data, .pinned], laidTests := true, laidLooks := .later }
def CatalogsForgetCardSaid : Prop := Claim7.holds Tryz.pinned (.plain (OpenSpec.ofChange catalogsForgetSpec)) catalogsForgetCard

/-- THE TIED CARD OF 'chasekeep1.CommonIsStripped'. -/
def commonIsStrippedCard : Claim7 := { stood := { row := commonIsStrippedRow, standIns := [], harness := (true, "cae3ea282d74be8e3768474808ffa6b114d6da5fea01c223de0504166f7f090d"), looks := false }, kinds := [], alts := [], laidByText := true, laidKinds := [.data, .pinned], laidTests := true, laidLooks := .later }
def CommonIsStrippedCardSaid : Prop := Claim7.holds Tryz.pinned (.plain (OpenSpec.ofChange commonIsStrippedSpec)) commonIsStrippedCard

/-- THE TIED CARD OF 'chasekeep1.GroupsPart'. -/
def groupsPartCard : Claim7 := { stood := { row := groupsPartRow, standIns := [], harness := (true, "cae3ea282d74be8e3768474808ffa6b114d6da5fea01c223de0504166f7f090d"), looks := false }, kinds := [], alts := [], laidByText := true, laidKinds := [.data, .pinned], laidTests := true, laidLooks := .later }
def GroupsPartCardSaid : Prop := Claim7.holds Tryz.pinned (.plain (OpenSpec.ofChange groupsPartSpec)) groupsPartCard

/-- THE SECOND FORM's CARD OF 'chasekeep1.WordsStay'. -/
def wordsStayUptoCard : Claim7 := { stood := { row := wordsStayUptoRow, standIns := [], harness := (true, "cae3ea282d74be8e3768474808ffa6b114d6da5fea01c223de0504166f7f090d"), looks := false }, kinds := [], alts := [], laidByText := true, laidKinds := [.data, .pinned], laidTests := true, laidLooks := .later }
def WordsStayUptoCardSaid : Prop := Claim7.holds Tryz.pinned (.plain (OpenSpec.upto wordsStaySpec)) wordsStayUptoCard

/-- THE SECOND FORM's CARD OF 'chasekeep1.CatalogsForget'. -/
def catalogsForgetUptoCard : Claim7 := { stood := { row := catalogsForgetUptoRow, standIns := [], harness := (true, "cae3ea282d74be8e3768474808ffa6b114d6da5fea01c223de0504166f7f090d"), looks := false }, kinds := [], alts := [], laidByText := true, laidKinds := [.data, .pinned], laidTests := true, laidLooks := .later }
def CatalogsForgetUptoCardSaid : Prop := Claim7.holds Tryz.pinned (.plain (OpenSpec.upto catalogsForgetSpec)) catalogsForgetUptoCard

/-- THE SECOND FORM's CARD OF 'chasekeep1.CommonIsStripped'. -/
def commonIsStrippedUptoCard : Claim7 := { stood := { row := commonIsStrippedUptoRow, standIns := [], harness := (true, "cae3ea282d74be8e3768474808ffa6b114d6da5fea01c223de0504166f7f090d"), looks := false }, kinds := [], alts := [], laidByText := true, laidKinds := [.data, .pinned], laidTests := true, laidLooks := .later }
def CommonIsStrippedUptoCardSaid : Prop := Claim7.holds Tryz.pinned (.plain (OpenSpec.upto commonIsStrippedSpec)) commonIsStrippedUptoCard

/-- THE SECOND FORM's CARD OF 'chasekeep1.GroupsPart'. -/
def groupsPartUptoCard : Claim7 := { stood := { row := groupsPartUptoRow, standIns := [], harness := (true, "cae3ea282d74be8e3768474808ffa6b114d6da5fea01c223de0504166f7f090d"), looks := false }, kinds := [], alts := [], laidByText := true, laidKinds := [.data, .pinned], laidTests := true, laidLooks := .later }
def GroupsPartUptoCardSaid : Prop := Claim7.holds Tryz.pinned (.plain (OpenSpec.upto groupsPartSpec)) groupsPartUptoCard
end Rows
end Go.Proofs.YtehhigcdeahopaaGreatDoor
