
/-
  What Range returns; what Pick is given.
-/
import Derived.Test.YthogkcgklakibaaGreatDoorStream
import Derived.Test.YthogkcgklakibaaGreatDoorElems
import Derived.Deep.DrawnRows
namespace Go.Proofs.YthogkcgklakibaaGreatDoor
open Go.RowKit
attribute [local go_sem ↓] Go.wp_at_zero Go.wp_at_succ

def RangeR (w : World) (g : Nat) (A : Option Addr) (n c K : Nat) (lo hi : Int) (e : Ending) (w' : World) : Prop :=
  ∃ r : Int, e = .returned (.int .i64 r) ∧ lo ≤ r ∧ r ≤ hi ∧ StreamAt w' g A n c (K + 1) ∧ w.grownBy w' (some g)
set_option maxHeartbeats 800000 in
theorem rangeR_any (g : Nat) (A : Option Addr) (n c K : Nat) (lo hi : Int) (w : World) (hs : StreamAt w g A n c K) (hK : K ≤ 1000000) (h0 : -1000000 ≤ lo) (h1 : lo ≤ hi) (h2 : hi ≤ 1000000) :
    Calls Tryz.prog 66 #[.pointer (some ⟨g, 0, none⟩), .int .i64 lo, .int .i64 hi] w (RangeR w g A n c K lo hi) := by
  have hni : ¬ hi < lo := by omega
  have e1 : IntKind.i64.wrap (hi - lo) = hi - lo := IntWalk.i64_in _ (by omega)
  have e2 : IntKind.i64.wrap (hi - lo + 1) = hi - lo + 1 := IntWalk.i64_in _ (by omega)
  go_enter Tryz.func66, Tryz.ntmps66
  go_wp2_with fail
  refine (next_any g A n c K (hi - lo + 1) w hs hK (by omega)).mono ?_
  rintro e w2 ⟨r, rfl, hr0, hr1, hs2, hg2⟩
  have hr1 := hr1 (by omega)
  have e3 : IntKind.i64.wrap (lo + r) = lo + r := IntWalk.i64_in _ (by omega)
  go_wp2_with fail
  go_ret
  exact ⟨lo + r, rfl, by omega, by omega, hs2, hg2⟩
theorem pickR_cells (w : World) (zs : List Int) (t : TypeId) : ∀ j, j < zs.length → (w.alloc (.cells (zs.map (Value.int .i64)).toArray t)).cell? ⟨w.heap.size, j, none⟩ = some (.int .i64 (zs.getD j 0)) := by
  intro j hj
  rw [World.cell?_alloc_at _ _ _ _ rfl]
  simp [hj]
end Go.Proofs.YthogkcgklakibaaGreatDoor
