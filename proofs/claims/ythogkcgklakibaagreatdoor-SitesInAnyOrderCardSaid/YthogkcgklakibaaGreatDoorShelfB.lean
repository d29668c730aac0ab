
/-
  The shelf's second part: nothing, where the first part has the sort of deeds.
-/
import Derived.Test.YthogkcgklakibaaGreatDoorShelf
namespace Go.Proofs.YthogkcgklakibaaGreatDoor
end Go.Proofs.YthogkcgklakibaaGreatDoor
