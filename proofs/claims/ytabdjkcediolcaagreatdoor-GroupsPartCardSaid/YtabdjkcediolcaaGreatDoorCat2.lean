
/-
  What Remove and Ids of a catalog do; leastError, enough, greater.
-/
import Derived.Test.YtabdjkcediolcaaGreatDoorCat
import Derived.Test.YtabdjkcediolcaaGreatDoorFrac
namespace Go.Proofs.YtabdjkcediolcaaGreatDoor
open Go.RowKit Go.Maps

set_option maxHeartbeats 800000 in
theorem leastError_any (k : Int) (w : World) (h1 : 1 ≤ k) (h2 : k ≤ 100) :
    Calls Tryz.prog 63 #[.int .i64 k] w fun e w' => e = .returned (.int .i64 0) ∧ w = w' := by
  have hi : inB k 1 100 = true := by simp [inB, h1, h2]
  go_enter Tryz.func63, Tryz.ntmps63
  go_wp2_with fail
  refine (in_any k 1 100 w).mono ?_
  rintro e w' ⟨rfl, rfl⟩
  rw [hi]
  go_wp2_with fail
  refine (when_any _ _ _).mono ?_
  rintro e w' ⟨rfl, rfl⟩
  go_wp2_with fail
  go_ret
  exact ⟨rfl, rfl⟩

def enoughL (f : Nat × Nat) (least : Nat) : Bool := decide (least * f.2 ≤ f.1 * 100)
set_option maxHeartbeats 800000 in
theorem enough_any (f : Nat × Nat) (least : Nat) (w : World) (h1 : f.1 ≤ 1000000) (h2 : f.2 ≤ 1000000) (h3 : least ≤ 100) :
    Calls Tryz.prog 67 #[.agg #[.int .i64 (f.1 : Int), .int .i64 (f.2 : Int)], .int .i64 least] w fun e w' => e = .returned (.bool (enoughL f least)) ∧ Below w.heap.size w w' := by
  obtain ⟨a, b⟩ := f
  simp only at *
  have hle : least * b ≤ 100 * 1000000 := Nat.mul_le_mul h3 h2
  have e1 : IntKind.i64.wrap ((a : Int) * 100) = (a : Int) * 100 := IntWalk.i64_in _ (by omega)
  have e2 : IntKind.i64.wrap ((least : Int) * (b : Int)) = (least : Int) * (b : Int) := IntWalk.i64_in _ (by rw [← Int.natCast_mul]; omega)
  go_enter Tryz.func67, Tryz.ntmps67
  go_wp2_with fail
  go_ret
  refine ⟨ret_bool ?_, (Below.refl _ _).alloc (Nat.le_refl _) _⟩
  unfold enoughL
  exact decide_eq_decide.2 ⟨fun h => by exact_mod_cast h, fun h => by exact_mod_cast h⟩

def cmpI (a b : Int) : Int := if a < b then -1 else if b < a then 1 else 0
set_option maxHeartbeats 800000 in
theorem isNaNI_any (a : Int) (w : World) : Calls Tryz.prog 127 #[.int .i64 a] w fun e w' => e = .returned (.bool false) ∧ w' = w := by
  go_enter Tryz.func127, Tryz.ntmps127
  go_wp2_with fail
  go_ret
  exact ⟨by simp, rfl⟩
set_option maxHeartbeats 800000 in
theorem compareI_any (a b : Int) (w : World) : Calls Tryz.prog 96 #[.int .i64 a, .int .i64 b] w fun e w' => e = .returned (.int .i64 (cmpI a b)) ∧ w' = w := by
  by_cases h1 : a < b
  · have HC : Hid (cmpI a b = -1) := by show _ = _; simp [cmpI, h1]
    go_enter Tryz.func96, Tryz.ntmps96
    go_wp2_with fail
    refine (isNaNI_any _ _).mono ?_
    rintro e w' ⟨rfl, hw⟩
    obtain rfl := hw.symm
    go_wp2_with fail
    refine (isNaNI_any _ _).mono ?_
    rintro e w' ⟨rfl, hw⟩
    obtain rfl := hw.symm
    go_wp2_with fail
    go_ret
    exact ⟨ret_int (by rw [HC.out]), rfl⟩
  · by_cases h2 : b < a
    · have HC : Hid (cmpI a b = 1) := by show _ = _; simp [cmpI, h1, h2]
      go_enter Tryz.func96, Tryz.ntmps96
      go_wp2_with fail
      refine (isNaNI_any _ _).mono ?_
      rintro e w' ⟨rfl, hw⟩
      obtain rfl := hw.symm
      go_wp2_with fail
      refine (isNaNI_any _ _).mono ?_
      rintro e w' ⟨rfl, hw⟩
      obtain rfl := hw.symm
      go_wp2_with fail
      go_ret
      exact ⟨ret_int (by rw [HC.out]), rfl⟩
    · have HC : Hid (cmpI a b = 0) := by show _ = _; simp [cmpI, h1, h2]
      go_enter Tryz.func96, Tryz.ntmps96
      go_wp2_with fail
      refine (isNaNI_any _ _).mono ?_
      rintro e w' ⟨rfl, hw⟩
      obtain rfl := hw.symm
      go_wp2_with fail
      refine (isNaNI_any _ _).mono ?_
      rintro e w' ⟨rfl, hw⟩
      obtain rfl := hw.symm
      go_wp2_with fail
      go_ret
      exact ⟨ret_int (by rw [HC.out]), rfl⟩

def greatL (f g : Nat × Nat) : Int := cmpI ((g.1 * f.2 : Nat) : Int) ((f.1 * g.2 : Nat) : Int)
end Go.Proofs.YtabdjkcediolcaaGreatDoor
