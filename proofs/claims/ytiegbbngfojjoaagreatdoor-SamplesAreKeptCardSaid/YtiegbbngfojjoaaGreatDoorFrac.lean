
/-
  What the comparison of strings, shared, fraction and like return.
-/
import Derived.Test.YtiegbbngfojjoaaGreatDoorStrLib
import Derived.Test.YtiegbbngfojjoaaGreatDoorFracPlain
namespace Go.Proofs.YtiegbbngfojjoaaGreatDoor
open Go.RowKit

set_option maxHeartbeats 400000 in
theorem isNaN_any (s : ByteArray) (w : World) : Calls Tryz.prog 179 #[.string s] w fun e w' => e = .returned (.bool false) ∧ w' = w := by
  go_enter Tryz.func179, Tryz.ntmps179
  go_wp2_with fail
  go_ret
  exact ⟨by simp, rfl⟩
theorem less_not_both : ∀ (a b : List UInt8), Op.bytesLess a b = true → Op.bytesLess b a = false
  | [], [], h => by simp [Op.bytesLess] at h
  | [], _ :: _, _ => by simp [Op.bytesLess]
  | _ :: _, [], h => by simp [Op.bytesLess] at h
  | x :: a, y :: b, h => by
    simp only [Op.bytesLess, Bool.or_eq_true, decide_eq_true_eq, Bool.and_eq_true, beq_iff_eq] at h
    simp only [Op.bytesLess, Bool.or_eq_false_iff, decide_eq_false_iff_not, Bool.and_eq_false_imp, beq_iff_eq]
    rcases h with h | ⟨rfl, h⟩
    · exact ⟨fun h2 => absurd (UInt8.lt_trans h h2) (UInt8.lt_irrefl _), fun e => by subst e; exact absurd h (UInt8.lt_irrefl _)⟩
    · exact ⟨UInt8.lt_irrefl _, fun _ => less_not_both a b h⟩
theorem less_total : ∀ (a b : List UInt8), Op.bytesLess a b = false → Op.bytesLess b a = false → a = b
  | [], [], _, _ => rfl
  | [], _ :: _, h, _ => by simp [Op.bytesLess] at h
  | _ :: _, [], _, h => by simp [Op.bytesLess] at h
  | x :: a, y :: b, h1, h2 => by
    simp only [Op.bytesLess, Bool.or_eq_false_iff, decide_eq_false_iff_not, Bool.and_eq_false_imp, beq_iff_eq] at h1 h2
    have e : x = y := UInt8.le_antisymm (UInt8.not_lt.1 h2.1) (UInt8.not_lt.1 h1.1)
    subst e
    rw [less_total a b (h1.2 rfl) (h2.2 rfl)]

set_option maxHeartbeats 800000 in
theorem compareS_any (a b : List UInt8) (w : World) : Calls Tryz.prog 135 #[.string ⟨a.toArray⟩, .string ⟨b.toArray⟩] w fun e w' => e = .returned (.int .i64 (cmpS a b)) ∧ w' = w := by
  have hta : (⟨a.toArray⟩ : ByteArray).toList = a := by rw [Lib.toList_data]
  have htb : (⟨b.toArray⟩ : ByteArray).toList = b := by rw [Lib.toList_data]
  cases h1 : Op.bytesLess a b
  · cases h2 : Op.bytesLess b a
    · have he := less_total a b h1 h2
      subst he
      have HC : Hid (cmpS a a = 0) := by show _ = _; simp [cmpS, h1]
      go_enter Tryz.func135, Tryz.ntmps135
      go_wp2_with fail
      refine (isNaN_any _ _).mono ?_
      rintro e w' ⟨rfl, hw⟩
      obtain rfl := hw.symm
      go_wp2_with fail
      refine (isNaN_any _ _).mono ?_
      rintro e w' ⟨rfl, hw⟩
      obtain rfl := hw.symm
      go_wp2_with fail
      go_ret
      exact ⟨ret_int (by rw [HC.out]), rfl⟩
    · have HC : Hid (cmpS a b = 1) := by show _ = _; simp [cmpS, h1, h2]
      have hne : ¬ a = b := fun e => by subst e; rw [h1] at h2; cases h2
      have hnb : (a == b) = false := by simpa using hne
      go_enter Tryz.func135, Tryz.ntmps135
      go_wp2_with fail
      refine (isNaN_any _ _).mono ?_
      rintro e w' ⟨rfl, hw⟩
      obtain rfl := hw.symm
      go_wp2_with fail
      refine (isNaN_any _ _).mono ?_
      rintro e w' ⟨rfl, hw⟩
      obtain rfl := hw.symm
      go_wp2_with fail
      go_ret
      exact ⟨ret_int (by rw [HC.out]), rfl⟩
  · have HC : Hid (cmpS a b = -1) := by show _ = _; simp [cmpS, h1]
    go_enter Tryz.func135, Tryz.ntmps135
    go_wp2_with fail
    refine (isNaN_any _ _).mono ?_
    rintro e w' ⟨rfl, hw⟩
    obtain rfl := hw.symm
    go_wp2_with fail
    refine (isNaN_any _ _).mono ?_
    rintro e w' ⟨rfl, hw⟩
    obtain rfl := hw.symm
    go_wp2_with fail
    go_ret
    exact ⟨ret_int (by rw [HC.out]), rfl⟩

def SharedPost (w : World) (x y : List (List UInt8)) (e : Ending) (w' : World) : Prop := e = .returned (.int .i64 (sharedL x y : Nat)) ∧ Below w.heap.size w w'
def FracPost (w : World) (f : Nat × Nat) (e : Ending) (w' : World) : Prop := e = .returned (.agg #[.int .i64 (f.1 : Int), .int .i64 (f.2 : Int)]) ∧ Below w.heap.size w w'
end Go.Proofs.YtiegbbngfojjoaaGreatDoor
