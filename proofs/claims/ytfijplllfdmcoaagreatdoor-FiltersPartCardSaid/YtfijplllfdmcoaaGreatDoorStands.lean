
/-
  The check of the packages returns true.
-/
import Derived.Test.YtfijplllfdmcoaaGreatDoorDigest
import Derived.Test.YtfijplllfdmcoaaGreatDoorHash
namespace Go.Proofs.YtfijplllfdmcoaaGreatDoor
open Go.RowKit
attribute [local go_sem ↓] Go.wp_at_zero Go.wp_at_succ

theorem keyError_ok (s : ByteArray) (w : World) (hk : keyL s.data.toList = true) : Calls Tryz.prog 99 #[.string s] w fun e w' => e = .returned (.int .i64 0) ∧ w' = w := by
  have HK := Lib.hid (key_st s hk w); clear hk
  go_enter Tryz.func99, Tryz.ntmps99
  go_wp2_with fail
  refine HK.out.mono ?_
  rintro e w' ⟨rfl, rfl⟩
  go_wp2_with fail
  refine (when_no_st _ _).mono ?_
  rintro e w' ⟨rfl, rfl⟩
  go_wp2_with fail
  go_ret
  exact ⟨rfl, rfl⟩
set_option maxHeartbeats 1600000 in
set_option maxRecDepth 100000 in
theorem sampleHash_ab (w : World) : Calls Tryz.prog 48 #[.string ⟨#[97]⟩, .string ⟨#[98]⟩] w fun e w' => e = .returned (.tuple #[.int .i64 (hashN [98, 32, 97]), .int .i64 0]) ∧ Below w.heap.size w w' := by
  have HK1 := Lib.hid (keyError_ok ⟨#[97]⟩ · (by decide +kernel))
  have HK2 := Lib.hid (keyError_ok ⟨#[98]⟩ · (by decide +kernel))
  have hh := fun w => hash_any ⟨#[97]⟩ ⟨#[98]⟩ w (by decide) (by decide)
  have ez : ((⟨#[98]⟩ : ByteArray).data.toList ++ 32 :: (⟨#[97]⟩ : ByteArray).data.toList) = [98, 32, 97] := rfl
  rw [ez] at hh
  generalize hashN [98, 32, 97] = z at *
  have HH := Lib.hid hh; clear hh ez
  go_enter Tryz.func48, Tryz.ntmps48
  go_wp2_with fail
  refine (HK1.out _).mono ?_
  rintro e w' ⟨rfl, rfl⟩
  go_wp2_with fail
  refine (HK2.out _).mono ?_
  rintro e w' ⟨rfl, rfl⟩
  go_wp2_with fail
  refine (first_2z _ _ rfl _).mono ?_
  rintro e w' ⟨rfl, rfl⟩
  go_wp2_with fail
  refine (HH.out _).mono ?_
  rintro e w2 ⟨rfl, hb⟩
  have hb2 := below_trans' ((Below.refl _ w').alloc (Nat.le_refl _) (.cells #[.int .i64 0, .int .i64 0] 36)) hb
  have hb3 : Hid (Below w'.heap.size w' w2) := hb2
  clear hb hb2 HK1 HK2 HH
  go_wp2_with fail
  go_ret2
  exact ⟨rfl, hb3.out⟩
theorem hashRef_ab (w : World) : Calls Tryz.prog 49 #[.string ⟨#[97]⟩, .string ⟨#[98]⟩] w fun e w' => e = .returned (.int .i64 (hashN [98, 32, 97])) ∧ Below w.heap.size w w' := by
  have h := hashOf_any ⟨#[97]⟩ ⟨#[98]⟩ w (by decide) (by decide)
  rw [hash_ab]
  exact h
set_option maxHeartbeats 1600000 in
set_option maxRecDepth 100000 in
theorem stands_any (w : World) (hS : StandAt w) : Calls Tryz.prog 10 #[] w fun e w' => e = .returned (.bool true) ∧ Below w.heap.size w w' := by
  have HH := Lib.hid sampleHash_ab
  have HR := Lib.hid hashRef_ab
  generalize hashN [98, 32, 97] = z at *
  go_enter Tryz.func10, Tryz.ntmps10
  go_wp2_with fail
  refine (parse_ab w).mono ?_
  rintro e w1 ⟨Q, c, rfl, hb1⟩
  go_wp2_with fail
  have hba : Below w1.heap.size w1 (w1.alloc (.cells #[.int .i64 6, .slice none 0 0, .int .i64 0, .slice Q 2 c] 94)) := (Below.refl _ _).alloc (Nat.le_refl _) _
  have hb2 := below_trans' hb1 hba
  generalize w1.alloc (.cells #[.int .i64 6, .slice none 0 0, .int .i64 0, .slice Q 2 c] 94) = w2 at *
  clear hba hb1
  refine (layout_ab w2 (hS.below hb2)).mono ?_
  rintro e w3 ⟨Q2, c2, rfl, hb3⟩
  have hb4 := below_trans' hb2 hb3
  clear hb2 hb3
  go_wp2_with fail
  have hba : Below w3.heap.size w3 (w3.alloc (.cells #[.slice Q2 1 c2, .slice none 0 0] 100)) := (Below.refl _ _).alloc (Nat.le_refl _) _
  have hb5 := below_trans' hb4 hba
  generalize w3.alloc (.cells #[.slice Q2 1 c2, .slice none 0 0] 100) = w5 at *
  clear hba hb4
  refine (HH.out w5).mono ?_
  rintro e w6 ⟨rfl, hb6⟩
  have hb7 := below_trans' hb5 hb6
  clear hb5 hb6
  go_wp2_with fail
  refine (HR.out w6).mono ?_
  rintro e w8 ⟨rfl, hb8⟩
  have hb9 := below_trans' hb7 hb8
  clear hb7 hb8
  go_wp2_with fail
  refine (digest_a w8 (hS.below hb9)).mono ?_
  rintro e w10 ⟨rfl, hb10⟩
  have hb11 := below_trans' hb9 hb10
  clear hb9 hb10
  go_wp2_with fail
  go_ret
  exact ⟨rfl, hb11⟩
end Go.Proofs.YtfijplllfdmcoaaGreatDoor
