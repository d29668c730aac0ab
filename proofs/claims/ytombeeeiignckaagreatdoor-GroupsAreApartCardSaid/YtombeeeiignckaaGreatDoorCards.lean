/-
  DERIVED. GIVEN WITH THE SEED: THE CARDS: each row of YtombeeeiignckaaGreatDoorRows.lean that lists a variable, with what it lists TIED to the program's text (the seventh form; the later family's looks); each row that meets fmt, with fmt's text TOLD by the authors' own Lean function (tested against real Go, not proved from fmt's source: count such statements apart). THE CARD IS WHAT COUNTS. Prove the row's statement (the work); the ties are given (YtombeeeiignckaaGreatDoorTie.lean); close each card by the builder's one call (the guide's Derived/Test/ToyasCard.lean, 'card_holds'). Laid BY PROGRAM, IN A SANDBOX (cutbox-door.mjs). By AI agents, Wed Nov 11 2026. No macro, syntax, notation, axiom, sorry.
-/
import Derived.Test.YtombeeeiignckaaGreatDoorRows
import GoSem.ClaimSeven
namespace Go.Proofs.YtombeeeiignckaaGreatDoor
namespace Rows

/-- THE TIED CARD OF 'chasekeep2.GroupsAreApart'. -/
def groupsAreApartCard : Claim7 := { stood := { row := groupsAreApartRow, standIns := [], harness := (true, "ba47c193c878a6250d3beb116022c2ee9f7dc7b5375e9faaf56a26f7de6b4220"), looks := true }, kinds := [], alts := [], laidByText := true, laidKinds := [.data, .data, .data, .data, .sentinel, .sentinel, .listed, .data, .pinned], laidTests := true, laidLooks := .later }
def GroupsAreApartCardSaid : Prop := Claim7.holds Tryz.pinned (.plain (OpenSpec.ofChange groupsAreApartSpec)) groupsAreApartCard

/-- THE SECOND FORM's CARD OF 'chasekeep2.GroupsAreApart'. -/
def groupsAreApartUptoCard : Claim7 := { stood := { row := groupsAreApartUptoRow, standIns := [], harness := (true, "ba47c193c878a6250d3beb116022c2ee9f7dc7b5375e9faaf56a26f7de6b4220"), looks := true }, kinds := [], alts := [], laidByText := true, laidKinds := [.data, .data, .data, .data, .sentinel, .sentinel, .listed, .data, .pinned], laidTests := true, laidLooks := .later }
def GroupsAreApartUptoCardSaid : Prop := Claim7.holds Tryz.pinned (.plain (OpenSpec.upto groupsAreApartSpec)) groupsAreApartUptoCard
end Rows
end Go.Proofs.YtombeeeiignckaaGreatDoor
