/-
  DERIVED. GIVEN WITH THE SEED: THE CARDS: each row of YtccllmkijnmooaaGreatDoorRows.lean that lists a variable, with what it lists TIED to the program's text (the seventh form; the later family's looks); each row that meets fmt, with fmt's text TOLD by the authors' own Lean function (tested against real Go, not proved from fmt's source: count such statements apart). THE CARD IS WHAT COUNTS. Prove the row's statement (the work); the ties are given (YtccllmkijnmooaaGreatDoorTie.lean); close each card by the builder's one call (the guide's Derived/Test/ToyasCard.lean, 'card_holds'). Laid BY PROGRAM, IN A SANDBOX (cutbox-door.mjs). By AI agents, Wed Nov 11 2026. No macro, syntax, notation, axiom, sorry.
-/
import Derived.Test.YtccllmkijnmooaaGreatDoorRows
import GoSem.ClaimSeven
namespace Go.Proofs.YtccllmkijnmooaaGreatDoor
namespace Rows

/-- THE TIED CARD OF 'chasekeep2.StoresAreKept'. -/
def storesAreKeptCard : Claim7 := { stood := { row := storesAreKeptRow, standIns := [], harness := (true, "717ff1125a4944047bf2bedcd7a01c131847543d6e9e68c21472bee8af97cc6d"), looks := true }, kinds := [], alts := [], laidByText := true, laidKinds := [.data, .data, .data, .data, .sentinel, .sentinel, .listed, .data, .pinned], laidTests := true, laidLooks := .later }
def StoresAreKeptCardSaid : Prop := Claim7.holds Tryz.pinned (.plain (OpenSpec.ofChange storesAreKeptSpec)) storesAreKeptCard

/-- THE TIED CARD OF 'chasekeep2.StoresMeet'. -/
def storesMeetCard : Claim7 := { stood := { row := storesMeetRow, standIns := [], harness := (true, "717ff1125a4944047bf2bedcd7a01c131847543d6e9e68c21472bee8af97cc6d"), looks := true }, kinds := [], alts := [], laidByText := true, laidKinds := [.data, .data, .data, .data, .sentinel, .sentinel, .listed, .data, .pinned], laidTests := true, laidLooks := .later }
def StoresMeetCardSaid : Prop := Claim7.holds Tryz.pinned (.plain (OpenSpec.ofChange storesMeetSpec)) storesMeetCard

/-- THE SECOND FORM's CARD OF 'chasekeep2.StoresAreKept'. -/
def storesAreKeptUptoCard : Claim7 := { stood := { row := storesAreKeptUptoRow, standIns := [], harness := (true, "717ff1125a4944047bf2bedcd7a01c131847543d6e9e68c21472bee8af97cc6d"), looks := true }, kinds := [], alts := [], laidByText := true, laidKinds := [.data, .data, .data, .data, .sentinel, .sentinel, .listed, .data, .pinned], laidTests := true, laidLooks := .later }
def StoresAreKeptUptoCardSaid : Prop := Claim7.holds Tryz.pinned (.plain (OpenSpec.upto storesAreKeptSpec)) storesAreKeptUptoCard

/-- THE SECOND FORM's CARD OF 'chasekeep2.StoresMeet'. -/
def storesMeetUptoCard : Claim7 := { stood := { row := storesMeetUptoRow, standIns := [], harness := (true, "717ff1125a4944047bf2bedcd7a01c131847543d6e9e68c21472bee8af97cc6d"), looks := true }, kinds := [], alts := [], laidByText := true, laidKinds := [.data, .data, .data, .data, .sentinel, .sentinel, .listed, .data, .pinned], laidTests := true, laidLooks := .later }
def StoresMeetUptoCardSaid : Prop := Claim7.holds Tryz.pinned (.plain (OpenSpec.upto storesMeetSpec)) storesMeetUptoCard
end Rows
end Go.Proofs.YtccllmkijnmooaaGreatDoor
