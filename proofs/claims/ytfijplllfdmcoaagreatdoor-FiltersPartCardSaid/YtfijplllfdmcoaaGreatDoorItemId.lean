
/-
  itemId of small numbers; right items.
-/
import Derived.Test.YtfijplllfdmcoaaGreatDoorMkItem2
import Derived.Test.YtfijplllfdmcoaaGreatDoorItemsFault
import Derived.Test.YtfijplllfdmcoaaGreatDoorPartErr
namespace Go.Proofs.YtfijplllfdmcoaaGreatDoor
open Go.RowKit

def idB (i : Nat) : ByteArray := ⟨#[105, 97, UInt8.ofNat (97 + i)]⟩
def idL (i : Nat) : List UInt8 := [105, 97, UInt8.ofNat (97 + i)]
theorem idB_data (i : Nat) : (idB i).data.toList = idL i := rfl
theorem idB_size (i : Nat) : (idB i).size = 3 := rfl
set_option maxHeartbeats 1600000 in
theorem itemId_any (i : Nat) (hi : i < 12) (w : World) : Calls Tryz.prog 25 #[.int .i64 (i : Int)] w fun e w' => e = .returned (.string (idB i)) ∧ w' = w := by
  have h : i = 0 ∨ i = 1 ∨ i = 2 ∨ i = 3 ∨ i = 4 ∨ i = 5 ∨ i = 6 ∨ i = 7 ∨ i = 8 ∨ i = 9 ∨ i = 10 ∨ i = 11 := by omega
  clear hi
  rcases h with rfl | rfl | rfl | rfl | rfl | rfl | rfl | rfl | rfl | rfl | rfl | rfl
  all_goals
    go_enter Tryz.func25, Tryz.ntmps25
    go_wp2_with fail
    go_ret
    exact ⟨rfl, rfl⟩
theorem ids_rise : Rising ((List.range 12).map idL) := by
  unfold Rising
  decide +kernel
/-- Right items: those of itemId, in order. -/
structure GoodI (l : List Itm) : Prop where
  ok : ItemsOk l
  ids : (l.map fun x => x.id.data.toList).Sublist ((List.range 12).map idL)
theorem GoodI.rise {l : List Itm} (h : GoodI l) : Rising (l.map fun x => x.id.data.toList) := List.Pairwise.sublist h.ids ids_rise
theorem GoodI.short {l : List Itm} (h : GoodI l) : l.length ≤ 12 := by
  have := h.ids.length_le
  simpa using this
end Go.Proofs.YtfijplllfdmcoaaGreatDoor
