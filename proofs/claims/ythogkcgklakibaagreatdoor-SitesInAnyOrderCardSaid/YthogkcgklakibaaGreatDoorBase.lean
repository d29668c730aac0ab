
/-
  What the small functions that several chapters share return: In, When, First, Digit, letter, Below.
-/
import Derived.Test.YthogkcgklakibaaGreatDoorProg
import Derived.WalkKit
import Derived.WalkSpells
import Derived.WalkLawsBesides
import Derived.Lib.Hide
namespace Go.Proofs.YthogkcgklakibaaGreatDoor
open Go.RowKit

theorem ret_int {k : IntKind} {a b : Int} (h : a = b) : Ending.returned (.int k a) = .returned (.int k b) := by rw [h]
theorem ret_bool {a b : Bool} (h : a = b) : Ending.returned (.bool a) = .returned (.bool b) := by rw [h]

def inB (n lo hi : Int) : Bool := decide (lo ≤ n ∧ n ≤ hi)

set_option maxHeartbeats 400000 in
theorem in_any (n lo hi : Int) (w : World) :
    Calls Tryz.prog 44 #[.int .i64 n, .int .i64 lo, .int .i64 hi] w fun e w' => e = .returned (.bool (inB n lo hi)) ∧ w = w' := by
  by_cases h1 : lo ≤ n
  · by_cases h2 : n ≤ hi
    · have hf : inB n lo hi = true := by simp [inB, h1, h2]
      rw [hf]; clear hf
      go_enter Tryz.func44, Tryz.ntmps44
      go_wp2
      go_ret
      exact ⟨rfl, rfl⟩
    · have hf : inB n lo hi = false := by simp [inB, h2]
      rw [hf]; clear hf
      go_enter Tryz.func44, Tryz.ntmps44
      go_wp2
      go_ret
      exact ⟨rfl, rfl⟩
  · have hf : inB n lo hi = false := by simp [inB, h1]
    rw [hf]; clear hf
    go_enter Tryz.func44, Tryz.ntmps44
    go_wp2
    go_ret
    exact ⟨rfl, rfl⟩

def whenE (b : Bool) (e : Int) : Int := if b then e else 0

set_option maxHeartbeats 400000 in
theorem when_any (b : Bool) (c : Int) (w : World) :
    Calls Tryz.prog 39 #[.bool b, .int .i64 c] w fun e w' => e = .returned (.int .i64 (whenE b c)) ∧ w = w' := by
  cases b
  · go_enter Tryz.func39, Tryz.ntmps39
    go_wp2
    go_ret
    exact ⟨rfl, rfl⟩
  · go_enter Tryz.func39, Tryz.ntmps39
    go_wp2
    go_ret
    exact ⟨rfl, rfl⟩

def firstE : List Int → Int
  | [] => 0
  | e :: l => if e = 0 then firstE l else e

theorem firstE_drop (es : List Int) (k : Nat) (h : k < es.length) : firstE (es.drop k) = if es.getD k 0 = 0 then firstE (es.drop (k + 1)) else es.getD k 0 := by
  rw [List.drop_eq_getElem_cons h]
  simp [firstE, List.getD, h]

set_option maxHeartbeats 400000 in
theorem first_any (g n cap : Nat) (es : List Int) (w : World) (hn : es.length = n) (hb : n ≤ 1000)
    (hc : ∀ j, j < n → w.cell? ⟨g, j, none⟩ = some (.int .i64 (es.getD j 0))) :
    Calls Tryz.prog 37 #[.slice (some ⟨g, 0, none⟩) n cap] w fun e w' => e = .returned (.int .i64 (firstE es)) ∧ w = w' := by
  have HN := Lib.hid hn; clear hn
  have HC := Lib.hid hc; clear hc
  go_enter Tryz.func37, Tryz.ntmps37
  go_wp2
  go_loop [7, 4] (fun i e => ∃ k : Nat, k ≤ n ∧ i = .int .i64 k ∧ firstE es = firstE (es.drop k)) (fun i _ => n - (intOf i).toNat)
  case atStart => exact ⟨0, Nat.zero_le _, rfl, rfl⟩
  case round =>
    obtain ⟨k, hk, rfl, he⟩ := hrel
    have HE := Lib.hid he; clear he
    by_cases hlt : k < n
    · have hcell := HC.out k hlt
      have HF := Lib.hid (firstE_drop es k (by have := HN.out; omega))
      by_cases hz : es.getD k 0 = 0
      · rw [hz] at hcell HF
        go_wp2
        go_round
        case rel => exact ⟨k + 1, by omega, by go_num, by rw [HE.out, HF.out]; simp⟩
        case measure => simp [intOf]; omega
      · generalize es.getD k 0 = z at *
        have hz' : (z != 0) = true := by simpa using hz
        go_wp2
        go_ret
        exact ⟨ret_int (by rw [HE.out, HF.out, if_neg hz]), rfl⟩
    · go_wp2
      go_ret
      exact ⟨ret_int (by rw [HE.out, List.drop_of_length_le (by have := HN.out; omega)]; rfl), rfl⟩


def digB (c : Int) : Bool := decide (48 ≤ c ∧ c ≤ 57)
set_option maxHeartbeats 400000 in
theorem digit_any (c : Int) (w : World) :
    Calls Tryz.prog 78 #[.int .u8 c] w fun e w' => e = .returned (.bool (digB c)) ∧ w = w' := by
  by_cases h1 : 48 ≤ c
  · go_enter Tryz.func78, Tryz.ntmps78
    go_wp2
    go_ret
    exact ⟨ret_bool (by simp [digB, h1]), rfl⟩
  · go_enter Tryz.func78, Tryz.ntmps78
    go_wp2
    go_ret
    exact ⟨ret_bool (by unfold digB; symm; simp; omega), rfl⟩

def belowI (x n : Int) : Int := if n < 1 then 0 else x % n
theorem tmod_fix (x n : Int) (hn : 1 ≤ n) : (x.tmod n < 0 → x % n = x.tmod n + n) ∧ (0 ≤ x.tmod n → x % n = x.tmod n) := by
  have h1 := Int.emod_nonneg x (show n ≠ 0 by omega)
  have h2 := Int.emod_lt_of_pos x (show 0 < n by omega)
  rw [Int.tmod_eq_emod]
  split
  · exact ⟨fun h => by omega, fun _ => by omega⟩
  · have e : ((n.natAbs : Nat) : Int) = n := by omega
    rw [e]
    exact ⟨fun h => by omega, fun h => by omega⟩

theorem belowI_range (x n : Int) : (1 ≤ n → 0 ≤ belowI x n ∧ belowI x n < n) ∧ 0 ≤ belowI x n := by
  unfold belowI
  split
  · exact ⟨fun h => by omega, by omega⟩
  · have h1 := Int.emod_nonneg x (show n ≠ 0 by omega)
    exact ⟨fun _ => ⟨h1, Int.emod_lt_of_pos x (show 0 < n by omega)⟩, h1⟩

set_option maxHeartbeats 400000 in
theorem below_any (x n : Int) (w : World) (hn : n ≤ 9223372036854775807) :
    Calls Tryz.prog 36 #[.int .i64 x, .int .i64 n] w fun e w' => e = .returned (.int .i64 (belowI x n)) ∧ w = w' := by
  by_cases h1 : n < 1
  · have hf : belowI x n = 0 := by simp [belowI, h1]
    rw [hf]; clear hf
    go_enter Tryz.func36, Tryz.ntmps36
    go_wp2
    go_ret
    exact ⟨rfl, rfl⟩
  · have hf : belowI x n = x % n := by simp [belowI, h1]
    have HF := Lib.hid hf; clear hf
    have HT := Lib.hid (tmod_fix x n (by omega))
    go_enter Tryz.func36, Tryz.ntmps36
    go_wp2
    all_goals go_ret
    · have h3 : x.tmod n < 0 := by assumption
      refine ⟨ret_int ?_, rfl⟩
      rw [HF.out, HT.out.1 h3, IntWalk.wrap64_in]
      have h4 := Int.lt_tmod_of_pos x (show 0 < n by omega)
      omega
    · have h3 : 0 ≤ x.tmod n := by assumption
      exact ⟨ret_int (by rw [HF.out, HT.out.2 h3]), rfl⟩

end Go.Proofs.YthogkcgklakibaaGreatDoor
