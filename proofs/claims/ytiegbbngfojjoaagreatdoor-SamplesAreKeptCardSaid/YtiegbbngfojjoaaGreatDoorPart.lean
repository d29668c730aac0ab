
/-
  What Part returns.
-/
import Derived.Test.YtiegbbngfojjoaaGreatDoorPartErr
import Derived.Test.YtiegbbngfojjoaaGreatDoorOwnSet
import Derived.Deep.RegionHeld3
import Derived.Deep.DrawnRows
namespace Go.Proofs.YtiegbbngfojjoaaGreatDoor
open Go.RowKit
attribute [local go_sem ↓] Go.wp_at_zero Go.wp_at_succ

theorem first_3z (g : Nat) (w : World) (h : g = w.heap.size) (t : TypeId) : Calls Tryz.prog 45 #[.slice (some ⟨g, 0, none⟩) 3 3] (w.alloc (.cells #[.int .i64 0, .int .i64 0, .int .i64 0] t)) fun e w' => e = .returned (.int .i64 0) ∧ (w.alloc (.cells #[.int .i64 0, .int .i64 0, .int .i64 0] t)) = w' := by
  subst h
  refine first_any _ 3 3 [0, 0, 0] _ rfl (by omega) (fun j hj => ?_)
  rw [World.cell?_alloc_at _ _ _ _ rfl]
  match j, hj with
  | 0, _ => rfl
  | 1, _ => rfl
  | 2, _ => rfl
theorem xor32_range (a b : Int) : 0 ≤ bits .xor .u32 a b ∧ bits .xor .u32 a b < 4294967296 := by
  simp only [bits]
  rw [IntKind.wrap_u32]
  exact ⟨Int.emod_nonneg _ (by decide), Int.emod_lt_of_pos _ (by decide)⟩
theorem hashN_range (L : List UInt8) : 0 ≤ hashN L ∧ hashN L < 4294967296 := by
  have h := xor32_range (mixH (mixH (fnvTo L L.length))) (mixH (mixH (fnvTo L L.length)) / 8192)
  unfold hashN
  generalize bits .xor .u32 (mixH (mixH (fnvTo L L.length))) (mixH (mixH (fnvTo L L.length)) / 8192) = z at *
  have e : wrap64 z = z := by unfold wrap64; omega
  rw [e]; exact h
/-- One that is in. -/
def inP (seed : List UInt8) (a b : Nat) (id : List UInt8) : Bool := decide (hashN (seed ++ 32 :: id) * (b : Int) < (a : Int) * 4294967296)
theorem inP_eq (seed : List UInt8) (a b : Nat) (id : List UInt8) : inP seed a b id = decide (hashN (seed ++ 32 :: id) * (b : Int) < (a : Int) * 4294967296) := rfl
theorem keyL_len {l : List UInt8} (h : keyL l = true) : l.length ≤ 40 := by
  unfold keyL at h
  simp at h
  omega
theorem mul_bound {z b : Int} (h : 0 ≤ z ∧ z < 4294967296) (hb : b ≤ 1000) (h0 : 0 ≤ b) : z * b ≤ 4294967296000 ∧ 0 ≤ z * b := by
  refine ⟨?_, Int.mul_nonneg h.1 h0⟩
  exact Int.mul_le_mul (show z ≤ 4294967296 by omega) hb h0 (by omega)
abbrev oneK : List UInt8 := [111, 110, 101]
theorem hash_one (x : List UInt8) (h : (⟨x.toArray⟩ : ByteArray).size ≤ 1000) (wx : World) : Calls Tryz.prog 79 #[.string ⟨x.toArray⟩, .string ⟨#[111, 110, 101]⟩] wx fun e w' => e = .returned (.int .i64 (hashN (oneK ++ 32 :: x))) ∧ Below wx.heap.size wx w' := by
  have k := hash_any ⟨x.toArray⟩ ⟨#[111, 110, 101]⟩ wx h (by decide)
  have e : (⟨#[111, 110, 101]⟩ : ByteArray).data.toList ++ 32 :: (⟨x.toArray⟩ : ByteArray).data.toList = oneK ++ 32 :: x := by simp
  rw [e] at k
  exact k
def PartsPost (w : World) (l : List (List UInt8)) (a b : Nat) (e : Ending) (w' : World) : Prop := ∃ v, e = .returned (.tuple #[v, .int .i64 0]) ∧ OwnStrs w' w.heap.size v (l.filter (inP oneK a b)) ∧ Below w.heap.size w w'
end Go.Proofs.YtiegbbngfojjoaaGreatDoor
