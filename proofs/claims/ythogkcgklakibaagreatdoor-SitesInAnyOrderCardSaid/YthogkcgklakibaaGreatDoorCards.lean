/-
  DERIVED. GIVEN WITH THE SEED: THE CARDS: each row of YthogkcgklakibaaGreatDoorRows.lean that lists a variable, with what it lists TIED to the program's text (the seventh form; the later family's looks); each row that meets fmt, with fmt's text TOLD by the authors' own Lean function (tested against real Go, not proved from fmt's source: count such statements apart). THE CARD IS WHAT COUNTS. Prove the row's statement (the work); the ties are given (YthogkcgklakibaaGreatDoorTie.lean); close each card by the builder's one call (the guide's Derived/Test/ToyasCard.lean, 'card_holds'). Laid BY PROGRAM, IN A SANDBOX (cutbox-door.mjs). By AI agents, Wed Nov 11 2026. No macro, syntax, notation, axiom, sorry.
-/
import Derived.Test.YthogkcgklakibaaGreatDoorRows
import GoSem.ClaimSeven
namespace Go.Proofs.YthogkcgklakibaaGreatDoor
namespace Rows

/-- THE TIED CARD OF 'chasekeep1.PastIsAccepted'. -/
def pastIsAcceptedCard : Claim7 := { stood := { row := pastIsAcceptedRow, standIns := [], harness := (true, "0cd18d33ddc945de9232b32951f171cfe016fb813e825e4de15fd62706907351"), looks := false }, kinds := [], alts := [], laidByText := true, laidKinds := [.data, .data, .data, .data, .pinned], laidTests := true, laidLooks := .later }
def PastIsAcceptedCardSaid : Prop := Claim7.holds Tryz.pinned (.plain (OpenSpec.ofChange pastIsAcceptedSpec)) pastIsAcceptedCard

/-- THE TIED CARD OF 'chasekeep1.SitesByDifferences'. -/
def sitesByDifferencesCard : Claim7 := { stood := { row := sitesByDifferencesRow, standIns := [], harness := (true, "0cd18d33ddc945de9232b32951f171cfe016fb813e825e4de15fd62706907351"), looks := false }, kinds := [], alts := [], laidByText := true, laidKinds := [.data, .data, .data, .data, .pinned], laidTests := true, laidLooks := .later }
def SitesByDifferencesCardSaid : Prop := Claim7.holds Tryz.pinned (.plain (OpenSpec.ofChange sitesByDifferencesSpec)) sitesByDifferencesCard

/-- THE TIED CARD OF 'chasekeep1.DeedsStay'. -/
def deedsStayCard : Claim7 := { stood := { row := deedsStayRow, standIns := [], harness := (true, "0cd18d33ddc945de9232b32951f171cfe016fb813e825e4de15fd62706907351"), looks := false }, kinds := [], alts := [], laidByText := true, laidKinds := [.data, .data, .data, .data, .pinned], laidTests := true, laidLooks := .later }
def DeedsStayCardSaid : Prop := Claim7.holds Tryz.pinned (.plain (OpenSpec.ofChange deedsStaySpec)) deedsStayCard

/-- THE TIED CARD OF 'chasekeep1.SitesInAnyOrder'. -/
def sitesInAnyOrderCard : Claim7 := { stood := { row := sitesInAnyOrderRow, standIns := [], harness := (true, "0cd18d33ddc945de9232b32951f171cfe016fb813e825e4de15fd62706907351"), looks := false }, kinds := [], alts := [], laidByText := true, laidKinds := [.data, .data, .data, .data, .pinned], laidTests := true, laidLooks := .later }
def SitesInAnyOrderCardSaid : Prop := Claim7.holds Tryz.pinned (.plain (OpenSpec.ofChange sitesInAnyOrderSpec)) sitesInAnyOrderCard

/-- THE TIED CARD OF 'chasekeep1.UndoneIsAsNever'. -/
def undoneIsAsNeverCard : Claim7 := { stood := { row := undoneIsAsNeverRow, standIns := [], harness := (true, "0cd18d33ddc945de9232b32951f171cfe016fb813e825e4de15fd62706907351"), looks := false }, kinds := [], alts := [], laidByText := true, laidKinds := [.data, .data, .data, .data, .pinned], laidTests := true, laidLooks := .later }
def UndoneIsAsNeverCardSaid : Prop := Claim7.holds Tryz.pinned (.plain (OpenSpec.ofChange undoneIsAsNeverSpec)) undoneIsAsNeverCard

/-- THE SECOND FORM's CARD OF 'chasekeep1.PastIsAccepted'. -/
def pastIsAcceptedUptoCard : Claim7 := { stood := { row := pastIsAcceptedUptoRow, standIns := [], harness := (true, "0cd18d33ddc945de9232b32951f171cfe016fb813e825e4de15fd62706907351"), looks := false }, kinds := [], alts := [], laidByText := true, laidKinds := [.data, .data, .data, .data, .pinned], laidTests := true, laidLooks := .later }
def PastIsAcceptedUptoCardSaid : Prop := Claim7.holds Tryz.pinned (.plain (OpenSpec.upto pastIsAcceptedSpec)) pastIsAcceptedUptoCard

/-- THE SECOND FORM's CARD OF 'chasekeep1.SitesByDifferences'. -/
def sitesByDifferencesUptoCard : Claim7 := { stood := { row := sitesByDifferencesUptoRow, standIns := [], harness := (true, "0cd18d33ddc945de9232b32951f171cfe016fb813e825e4de15fd62706907351"), looks := false }, kinds := [], alts := [], laidByText := true, laidKinds := [.data, .data, .data, .data, .pinned], laidTests := true, laidLooks := .later }
def SitesByDifferencesUptoCardSaid : Prop := Claim7.holds Tryz.pinned (.plain (OpenSpec.upto sitesByDifferencesSpec)) sitesByDifferencesUptoCard

/-- THE SECOND FORM's CARD OF 'chasekeep1.DeedsStay'. -/
def deedsStayUptoCard : Claim7 := { stood := { row := deedsStayUptoRow, standIns := [], harness := (true, "0cd18d33ddc945de9232b32951f171cfe016fb813e825e4de15fd62706907351"), looks := false }, kinds := [], alts := [], laidByText := true, laidKinds := [.data, .data, .data, .data, .pinned], laidTests := true, laidLooks := .later }
def DeedsStayUptoCardSaid : Prop := Claim7.holds Tryz.pinned (.plain (OpenSpec.upto deedsStaySpec)) deedsStayUptoCard

/-- THE SECOND FORM's CARD OF 'chasekeep1.SitesInAnyOrder'. -/
def sitesInAnyOrderUptoCard : Claim7 := { stood := { row := sitesInAnyOrderUptoRow, standIns := [], harness := (true, "0cd18d33ddc945de9232b32951f171cfe016fb813e825e4de15fd62706907351"), looks := false }, kinds := [], alts := [], laidByText := true, laidKinds := [.data, .data, .data, .data, .pinned], laidTests := true, laidLooks := .later }
def SitesInAnyOrderUptoCardSaid : Prop := Claim7.holds Tryz.pinned (.plain (OpenSpec.upto sitesInAnyOrderSpec)) sitesInAnyOrderUptoCard

/-- THE SECOND FORM's CARD OF 'chasekeep1.UndoneIsAsNever'. -/
def undoneIsAsNeverUptoCard : Claim7 := { stood := { row := undoneIsAsNeverUptoRow, standIns := [], harness := (true, "0cd18d33ddc945de9232b32951f171cfe016fb813e825e4de15fd62706907351"), looks := false }, kinds := [], alts := [], laidByText := true, laidKinds := [.data, .data, .data, .data, .pinned], laidTests := true, laidLooks := .later }
def UndoneIsAsNeverUptoCardSaid : Prop := Claim7.holds Tryz.pinned (.plain (OpenSpec.upto undoneIsAsNeverSpec)) undoneIsAsNeverUptoCard
end Rows
end Go.Proofs.YthogkcgklakibaaGreatDoor
