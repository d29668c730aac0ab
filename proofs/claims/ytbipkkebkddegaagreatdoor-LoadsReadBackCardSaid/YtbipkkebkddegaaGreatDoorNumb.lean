
/-
  produces: a number of a page at fixed arguments.
-/
import Derived.Test.YtbipkkebkddegaaGreatDoorShelf
import Derived.Test.YtbipkkebkddegaaGreatDoorBase
namespace Go.Proofs.YtbipkkebkddegaaGreatDoor
open Go.RowKit

set_option maxHeartbeats 800000 in
set_option maxRecDepth 100000 in
theorem isPrefix_ab (w : World) : Calls Tryz.prog 108 #[.string ⟨#[65, 66]⟩] w fun e w' => e = .returned (.bool true) ∧ w' = w := by
  have hin : inB 2 1 8 = true := by decide
  go_enter Tryz.func108, Tryz.ntmps108
  go_wp2_with fail
  refine wp_loop_rounds 3 ?_
  rw [rounds_succ]
  go_wp2_with fail
  rw [rounds_succ]
  go_wp2_with fail
  rw [rounds_succ]
  go_wp2_with fail
  refine (in_any 2 1 8 w).mono ?_
  rintro e w' ⟨rfl, hw⟩
  obtain rfl := hw.symm
  rw [hin]
  go_wp2_with fail
  go_ret
  exact ⟨rfl, rfl⟩
set_option maxHeartbeats 800000 in
set_option maxRecDepth 100000 in
theorem power_four (w : World) : Calls Tryz.prog 73 #[.int .i64 4] w fun e w' => e = .returned (.int .i64 10000) ∧ w' = w := by
  go_enter Tryz.func73, Tryz.ntmps73
  go_wp2_with fail
  refine wp_loop_rounds 5 ?_
  rw [rounds_succ]
  go_wp2_with fail
  rw [rounds_succ]
  go_wp2_with fail
  rw [rounds_succ]
  go_wp2_with fail
  rw [rounds_succ]
  go_wp2_with fail
  rw [rounds_succ]
  go_wp2_with fail
  go_ret
  exact ⟨rfl, rfl⟩
def SamePost (r : Value) (w : World) (e : Ending) (w' : World) : Prop := e = .returned r ∧ Below w.heap.size w w'
set_option maxHeartbeats 800000 in
set_option maxRecDepth 100000 in
theorem headError_ab (w : World) : Calls Tryz.prog 72 #[.string ⟨#[65, 66]⟩, .int .i64 4] w (SamePost (.int .i64 0) w) := by
  have hin : inB 4 4 9 = true := by decide
  have hw0 : whenE false 3 = 0 := rfl
  have hw1 : whenE false 1 = 0 := rfl
  go_enter Tryz.func72, Tryz.ntmps72
  go_wp2_with fail
  refine (isPrefix_ab w).mono ?_
  rintro e w' ⟨rfl, hw⟩
  obtain rfl := hw.symm 
  go_wp2_with fail
  refine (when_any false 3 w).mono ?_
  rintro e w' ⟨rfl, hw⟩
  obtain rfl := hw
  rw [hw0]
  go_wp2_with fail
  refine (in_any 4 4 9 w).mono ?_
  rintro e w' ⟨rfl, hw⟩
  obtain rfl := hw
  rw [hin]
  go_wp2_with fail
  refine (when_any false 1 w).mono ?_
  rintro e w' ⟨rfl, hw⟩
  obtain rfl := hw
  rw [hw1]
  go_wp2_with fail
  refine (first_any w.heap.size 2 2 [0, 0] _ rfl (by omega) (fun j hj => by
    rw [World.cell?_alloc_at _ _ _ _ rfl]
    match j, hj with
    | 0, _ => rfl
    | 1, _ => rfl)).mono ?_
  rintro e w' ⟨rfl, hw⟩
  subst hw
  have hb : Below w.heap.size w (w.alloc (.cells #[.int .i64 0, .int .i64 0] 28)) := (Below.refl _ _).alloc (Nat.le_refl _) _
  have HB := Lib.hid hb
  clear hb
  go_wp2_with fail
  go_ret
  exact ⟨rfl, HB.out⟩
set_option maxHeartbeats 800000 in
set_option maxRecDepth 100000 in
theorem written_seven (w : World) : Calls Tryz.prog 62 #[.string ⟨#[65, 66]⟩, .int .i64 4, .int .i64 7] w (SamePost (.string ⟨#[65, 66, 48, 48, 48, 55]⟩) w) := by
  go_enter Tryz.func62, Tryz.ntmps62
  go_wp2_with fail
  refine (Tryz.strconv_Itoa_small 7 (by omega) w).mono ?_
  rintro e w1 ⟨rfl, hw1⟩
  obtain rfl := hw1.symm
  rw [show (⟨(Lib.decDigits 7).toArray⟩ : ByteArray) = ⟨#[55]⟩ by decide +kernel]
  go_wp2_with fail
  refine (Tryz.strings_Repeat ⟨#[48]⟩ 3 w (by omega) (by decide)).mono ?_
  rintro e w2 ⟨rfl, hb2⟩
  rw [show (⟨(Lib.repeatL (⟨#[48]⟩ : ByteArray).data.toList 3).toArray⟩ : ByteArray) = ⟨#[48, 48, 48]⟩ by decide +kernel]
  go_wp2_with fail
  go_ret
  exact ⟨rfl, hb2⟩
set_option maxHeartbeats 800000 in
set_option maxRecDepth 100000 in
theorem number_seven (w : World) : Calls Tryz.prog 38 #[.string ⟨#[65, 66]⟩, .int .i64 4, .int .i64 7] w (SamePost (.tuple #[.string ⟨#[65, 66, 48, 48, 48, 55]⟩, .int .i64 0]) w) := by
  have hin : inB 7 1 9999 = true := by decide
  go_enter Tryz.func38, Tryz.ntmps38
  go_wp2_with fail
  refine (headError_ab w).mono ?_
  rintro e w1 ⟨rfl, hb1⟩
  have HB1 := Lib.hid hb1
  clear hb1
  go_wp2_with fail
  refine (power_four w1).mono ?_
  rintro e w2 ⟨rfl, hw2⟩
  obtain rfl := hw2.symm
  go_wp2_with fail
  refine (in_any 7 1 9999 w1).mono ?_
  rintro e w2 ⟨rfl, hw2⟩
  obtain rfl := hw2
  rw [hin]
  go_wp2_with fail
  refine (written_seven w1).mono ?_
  rintro e w3 ⟨rfl, hb3⟩
  have HB3 := Lib.hid (HB1.out.trans (hb3.mono HB1.out.size))
  clear hb3
  go_wp2_with fail
  exact bodyPost_ret (v := .tuple #[.string ⟨#[65, 66, 48, 48, 48, 55]⟩, .int .i64 0]) (by simp [results, Tryz.results38, go_sem]) rfl ⟨rfl, HB3.out⟩
set_option maxHeartbeats 800000 in
set_option maxRecDepth 100000 in
theorem produces_any (w : World) : Calls Tryz.prog 8 #[] w (SamePost (.bool true) w) := by
  go_enter Tryz.func8, Tryz.ntmps8
  go_wp2_with fail
  refine (number_seven w).mono ?_
  rintro e w1 ⟨rfl, hb1⟩
  have HB1 := Lib.hid hb1
  clear hb1
  go_wp2_with fail
  go_ret
  exact ⟨rfl, HB1.out⟩
end Go.Proofs.YtbipkkebkddegaaGreatDoor
