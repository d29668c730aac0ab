
/-
  What Remove and Ids of a catalog do; leastError, enough, greater.
-/
import Derived.Test.YtmaimojpjepmjaaGreatDoorCat
import Derived.Test.YtmaimojpjepmjaaGreatDoorFrac
namespace Go.Proofs.YtmaimojpjepmjaaGreatDoor
open Go.RowKit Go.Maps

def RemovePost (w : World) (P M k tot m : Nat) (D : DataW Unit) (e : Ending) (w' : World) : Prop := e = .returned (.int .i64 0) ∧ CatAt w' P M k tot m D ∧ But2 P M w w'
set_option maxHeartbeats 800000 in
theorem ids_any (P M k tot m : Nat) (D : DataW Unit) (w : World) (hc : CatAt w P M k tot m D) (hm : m ≤ 1000) :
    Calls Tryz.prog 18 #[.pointer (some ⟨P, 0, none⟩)] w (SortedPost w.heap.size w D) := by
  obtain ⟨c0, c1, c2, cf⟩ := three_cell hc.row
  have hsz : Maps.size D ≤ 1000 := Nat.le_trans hc.map.size_le hm
  have HM := Lib.hid hc.map
  clear hc cf
  go_enter Tryz.func18, Tryz.ntmps18
  go_wp2_with fail
  refine (keysS_any (some M) w).mono ?_
  rintro e w' ⟨rfl, rfl⟩
  go_wp2_with fail
  refine (sortedS_any M m D _ w HM.out (Nat.le_trans hsz (by decide))).mono ?_
  rintro e w' ⟨v, rfl, h1, h2⟩
  go_wp2_with fail
  go_ret
  exact ⟨v, rfl, h1, h2⟩

def enoughL (f : Nat × Nat) (least : Nat) : Bool := decide (least * f.2 ≤ f.1 * 100)
def cmpI (a b : Int) : Int := if a < b then -1 else if b < a then 1 else 0
def greatL (f g : Nat × Nat) : Int := cmpI ((g.1 * f.2 : Nat) : Int) ((f.1 * g.2 : Nat) : Int)
end Go.Proofs.YtmaimojpjepmjaaGreatDoor
