
/-
  What the check of a layout says of one field with one choice.
-/
import Derived.Test.YtfijplllfdmcoaaGreatDoorLines
import Derived.Test.YtfijplllfdmcoaaGreatDoorKey
import Derived.Deep.QuietTactic
import Derived.BigQuiet
import Derived.StillTailTactics
import Derived.RegionTactic
namespace Go.Proofs.YtfijplllfdmcoaaGreatDoor
open Go.RowKit

theorem when_no_st (c : Int) (w : World) : Calls Tryz.prog 41 #[.bool false, .int .i64 c] w fun e w' => e = .returned (.int .i64 0) ∧ w' = w := (when_any false c w).mono fun _ _ h => ⟨h.1, h.2.symm⟩
theorem key_st (s : ByteArray) (hk : keyL s.data.toList = true) (w : World) : Calls Tryz.prog 43 #[.string s] w fun e w' => e = .returned (.bool true) ∧ w' = w := (key_any s w hk).mono fun _ _ h => ⟨h.1, h.2.symm⟩
theorem first_2z (g : Nat) (w : World) (h : g = w.heap.size) (t : TypeId) : Calls Tryz.prog 36 #[.slice (some ⟨g, 0, none⟩) 2 2] (w.alloc (.cells #[.int .i64 0, .int .i64 0] t)) fun e w' => e = .returned (.int .i64 0) ∧ (w.alloc (.cells #[.int .i64 0, .int .i64 0] t)) = w' := by
  subst h
  refine first_any _ 2 2 [0, 0] _ rfl (by omega) (fun j hj => ?_)
  rw [World.cell?_alloc_at _ _ _ _ rfl]
  match j, hj with
  | 0, _ => rfl
  | 1, _ => rfl
theorem first_4z (g : Nat) (w : World) (h : g = w.heap.size) (t : TypeId) : Calls Tryz.prog 36 #[.slice (some ⟨g, 0, none⟩) 4 4] (w.alloc (.cells #[.int .i64 0, .int .i64 0, .int .i64 0, .int .i64 0] t)) fun e w' => e = .returned (.int .i64 0) ∧ (w.alloc (.cells #[.int .i64 0, .int .i64 0, .int .i64 0, .int .i64 0] t)) = w' := by
  subst h
  refine first_any _ 4 4 [0, 0, 0, 0] _ rfl (by omega) (fun j hj => ?_)
  rw [World.cell?_alloc_at _ _ _ _ rfl]
  match j, hj with
  | 0, _ => rfl
  | 1, _ => rfl
  | 2, _ => rfl
  | 3, _ => rfl

/-- A field as it lies: its name, its choices, whether several may be chosen, how it spreads. -/
abbrev RawAsk := List UInt8 × (Option Addr × Nat × Nat) × Bool × Int
def AskE : Elem RawAsk := ⟨162, 97, 4, 56, .agg #[.string ⟨#[]⟩, .slice none 0 0, .bool false, .int .i64 0], fun r => [.string ⟨r.1.toArray⟩, .slice r.2.1.1 r.2.1.2.1 r.2.1.2.2, .bool r.2.2.1, .int .i64 r.2.2.2]⟩
theorem askE_ok : AskE.Ok := ⟨fun _ => rfl, fun x u hu => by simp [AskE] at hu; rcases hu with rfl | rfl | rfl | rfl <;> rfl, by decide, by decide, by kernel_rfl, by kernel_rfl, Tryz.underlying97⟩
theorem containsFunc_none (A : Option Addr) (c : Nat) (F : Value) (w : World) :
    Calls Tryz.prog 151 #[.slice A 0 c, F] w fun e w' => e = .returned (.bool false) ∧ w = w' := by
  go_enter Tryz.func151, Tryz.ntmps151
  go_wp2_with fail
  go_in
  go_wp2_with fail
  refine wp_loop_rounds 1 ?_
  rw [rounds_succ]
  go_wp2_with fail
  go_ret
  exact ⟨rfl, rfl⟩
theorem und_ask : Tryz.prog.underlying 97 = some (.slice (Tryz.prog.elem 97)) := by rw [show Tryz.prog.elem 97 = 162 by kernel_rfl]; exact Tryz.underlying97

theorem contains_none (A : Option Addr) (c : Nat) (x : ByteArray) (w : World) : Calls Tryz.prog 54 #[.slice A 0 c, .string x] w fun e w' => e = .returned (.bool false) ∧ w' = w := Tryz.slices_Contains_string_empty A c x w
set_option maxHeartbeats 3200000 in
set_option maxRecDepth 100000 in
theorem checkLayout_ab (Q C : Option Addr) (c d : Nat) (w : World) (hQ : ElemsAt AskE w Q 1 c [([97], (C, 1, d), false, 0)]) (hC : StrsAt w C 1 d [[98]]) :
    Calls Tryz.prog 98 #[.agg #[.slice Q 1 c, .slice none 0 0]] w fun e w' => e = .returned (.int .i64 0) ∧ Below w.heap.size w w' := by
  have hk1 : keyL (⟨#[97]⟩ : ByteArray).data.toList = true := by decide +kernel
  have hk2 : keyL (⟨#[98]⟩ : ByteArray).data.toList = true := by decide +kernel
  have HK1 := Lib.hid hk1; clear hk1
  have HK2 := Lib.hid hk2; clear hk2
  have hcc := hQ.2.1
  have hdd := hC.2.1
  obtain ⟨gq, oq, rfl, hgq, hcq⟩ := hQ.2.2.2 (by omega)
  have q0 : w.cell? ⟨gq, oq, none⟩ = some (.string ⟨#[97]⟩) := hcq 0 _ 0 _ rfl rfl
  have q1 : w.cell? ⟨gq, oq + 1, none⟩ = some (.slice C 1 d) := hcq 0 _ 1 _ rfl rfl
  have q2 : w.cell? ⟨gq, oq + 2, none⟩ = some (.bool false) := hcq 0 _ 2 _ rfl rfl
  have q3 : w.cell? ⟨gq, oq + 3, none⟩ = some (.int .i64 0) := hcq 0 _ 3 _ rfl rfl
  clear hQ hcq
  obtain ⟨gc, oc, rfl, hgc, hcc2⟩ := hC.str (by omega)
  have s0 : w.cell? ⟨gc, oc, none⟩ = some (.string ⟨#[98]⟩) := hcc2 0 (by omega)
  clear hC hcc2
  go_enter Tryz.func98, Tryz.ntmps98
  go_wp2_with fail
  have hb1 := heap_alloc_new w (.cells #[.slice (some ⟨gq, oq, none⟩) 1 c, .slice none 0 0] 100)
  have hB : Below w.heap.size w (w.alloc (.cells #[.slice (some ⟨gq, oq, none⟩) 1 c, .slice none 0 0] 100)) := (Below.refl _ _).alloc (Nat.le_refl _) _
  generalize w.alloc (.cells #[.slice (some ⟨gq, oq, none⟩) 1 c, .slice none 0 0] 100) = w1 at *
  have HB1 := Lib.hid hb1; clear hb1
  have l0 : w1.cell? ⟨w.heap.size, 0, none⟩ = some (.slice (some ⟨gq, oq, none⟩) 1 c) := by rw [cell_of_row w1 _ _ _ _ _ HB1.out]; rfl
  refine wp_region_still_tail 10 (by kernel_rfl) (by kernel_rfl) ?_
  simp only [List.take_succ_cons, List.take_zero, List.drop_succ_cons, List.drop_zero]
  repeat still_step
  still_call (when_no_st _ _)
  repeat still_step
  still_call (when_no_st _ _)
  repeat still_step
  refine wpStill_nil ?_
  change wpList _ _ _ _ _ w1.drew
  have HB2 : Hid (w1.drew.heap[w.heap.size]? = some (.cells #[.slice (some ⟨gq, oq, none⟩) 1 c, .slice none 0 0] 100 (0, 0))) := HB1.out
  have hb2 : Below w.heap.size w w1.drew := hB.drew
  clear l0 HB1 hB
  generalize w1.drew = w2 at *
  go_wp2_with fail
  refine (first_2z _ _ rfl _).mono ?_
  rintro e w' ⟨rfl, rfl⟩
  have hba : Below w2.heap.size w2 (w2.alloc (.cells #[.int .i64 0, .int .i64 0] 36)) := (Below.refl _ _).alloc (Nat.le_refl _) _
  have HB3 := Lib.hid ((hba.block _ (Array.getElem?_eq_some_iff.1 HB2.out).1).trans HB2.out)
  have hb3 := below_trans' hb2 hba
  clear hba hb2 HB2
  generalize w2.alloc (.cells #[.int .i64 0, .int .i64 0] 36) = w3 at *
  have l0 : w3.cell? ⟨w.heap.size, 0, none⟩ = some (.slice (some ⟨gq, oq, none⟩) 1 c) := by rw [cell_of_row w3 _ _ _ _ _ HB3.out]; rfl
  have hlw := (Array.getElem?_eq_some_iff.1 HB3.out).1
  have p0 := (hb3.cell (p := ⟨gq, oq, none⟩) hgq).trans q0
  have p1 := (hb3.cell (p := ⟨gq, oq + 1, none⟩) hgq).trans q1
  have p2 := (hb3.cell (p := ⟨gq, oq + 2, none⟩) hgq).trans q2
  have p3 := (hb3.cell (p := ⟨gq, oq + 3, none⟩) hgq).trans q3
  go_wp2_with fail
  refine wp_loop_rounds 2 ?_
  rw [rounds_succ]
  go_wp2_with fail
  have hpb := heap_alloc_new w3 (.cells #[.string ⟨#[97]⟩, .slice (some ⟨gc, oc, none⟩) 1 d, .bool false, .int .i64 0] 162)
  have hba : Below w3.heap.size w3 (w3.alloc (.cells #[.string ⟨#[97]⟩, .slice (some ⟨gc, oc, none⟩) 1 d, .bool false, .int .i64 0] 162)) := (Below.refl _ _).alloc (Nat.le_refl _) _
  have HB4 := Lib.hid ((hba.block _ hlw).trans HB3.out)
  have hb4 := below_trans' hb3 hba
  have HPB := Lib.hid hpb
  obtain ⟨P, hP⟩ : ∃ P, P = w3.heap.size := ⟨_, rfl⟩
  rw [← hP] at HPB hlw ⊢
  clear hba hb3 HB3 hpb l0 p0 p1 p2 p3 hP
  generalize w3.alloc (.cells #[.string ⟨#[97]⟩, .slice (some ⟨gc, oc, none⟩) 1 d, .bool false, .int .i64 0] 162) = w4 at *
  refine (containsFunc_none _ c _ w4).mono ?_
  rintro e w' ⟨rfl, rfl⟩
  obtain ⟨a0, a1, a2, a3, ha⟩ : w4.cell? ⟨P, 0, none⟩ = some (.string ⟨#[97]⟩) ∧ w4.cell? ⟨P, 1, none⟩ = some (.slice (some ⟨gc, oc, none⟩) 1 d) ∧ w4.cell? ⟨P, 2, none⟩ = some (.bool false) ∧ w4.cell? ⟨P, 3, none⟩ = some (.int .i64 0) ∧ P < w4.heap.size := by
    refine ⟨?_, ?_, ?_, ?_, (Array.getElem?_eq_some_iff.1 HPB.out).1⟩ <;> (rw [cell_of_row w4 P _ _ _ _ HPB.out]; rfl)
  go_upto_region 8 with (fail)
  refine wp_region_still_tail 17 (by kernel_rfl) (by kernel_rfl) ?_
  simp only [List.take_succ_cons, List.take_zero, List.drop_succ_cons, List.drop_zero]
  repeat still_step
  still_call (key_st _ HK1.out _)
  repeat still_step
  still_call (when_no_st _ _)
  repeat still_step
  still_call (when_no_st _ _)
  repeat still_step
  still_call (when_no_st _ _)
  repeat still_step
  still_call (when_no_st _ _)
  repeat still_step
  refine wpStill_nil ?_
  change wpList _ _ _ _ _ w4.drew
  have HB5 : Hid (w4.drew.heap[w.heap.size]? = some (.cells #[.slice (some ⟨gq, oq, none⟩) 1 c, .slice none 0 0] 100 (0, 0))) := HB4.out
  have HPB5 : Hid (w4.drew.heap[P]? = some (.cells #[.string ⟨#[97]⟩, .slice (some ⟨gc, oc, none⟩) 1 d, .bool false, .int .i64 0] 162 (0, 0))) := HPB.out
  have hb5 : Below w.heap.size w w4.drew := hb4.drew
  clear a0 a1 a2 a3 ha hb4 HB4 HPB
  generalize w4.drew = w5 at *
  go_wp2_with fail
  refine (first_4z _ _ rfl _).mono ?_
  rintro e w' ⟨rfl, rfl⟩
  have hba : Below w5.heap.size w5 (w5.alloc (.cells #[.int .i64 0, .int .i64 0, .int .i64 0, .int .i64 0] 36)) := (Below.refl _ _).alloc (Nat.le_refl _) _
  have HB6 := Lib.hid ((hba.block _ (Array.getElem?_eq_some_iff.1 HB5.out).1).trans HB5.out)
  have HPB6 := Lib.hid ((hba.block _ (Array.getElem?_eq_some_iff.1 HPB5.out).1).trans HPB5.out)
  have hb6 := below_trans' hb5 hba
  clear hba hb5 HB5 HPB5
  generalize w5.alloc (.cells #[.int .i64 0, .int .i64 0, .int .i64 0, .int .i64 0] 36) = w6 at *
  obtain ⟨a0, a1, a2, a3, ha⟩ : w6.cell? ⟨P, 0, none⟩ = some (.string ⟨#[97]⟩) ∧ w6.cell? ⟨P, 1, none⟩ = some (.slice (some ⟨gc, oc, none⟩) 1 d) ∧ w6.cell? ⟨P, 2, none⟩ = some (.bool false) ∧ w6.cell? ⟨P, 3, none⟩ = some (.int .i64 0) ∧ P < w6.heap.size := by
    refine ⟨?_, ?_, ?_, ?_, (Array.getElem?_eq_some_iff.1 HPB6.out).1⟩ <;> (rw [cell_of_row w6 P _ _ _ _ HPB6.out]; rfl)
  have s6 := (hb6.cell (p := ⟨gc, oc, none⟩) hgc).trans s0
  go_wp2_with fail
  refine wp_loop_rounds 2 ?_
  rw [rounds_succ]
  go_upto_region 14 with (fail)
  refine wp_region_still_tail 11 (by kernel_rfl) (by kernel_rfl) ?_
  simp only [List.take_succ_cons, List.take_zero, List.drop_succ_cons, List.drop_zero]
  repeat still_step
  still_call (key_st _ HK2.out _)
  repeat still_step
  still_call (when_no_st _ _)
  repeat still_step
  still_call (contains_none _ _ _ _)
  repeat still_step
  still_call (when_no_st _ _)
  repeat still_step
  refine wpStill_nil ?_
  change wpList _ _ _ _ _ w6.drew
  have HB7 : Hid (w6.drew.heap[w.heap.size]? = some (.cells #[.slice (some ⟨gq, oq, none⟩) 1 c, .slice none 0 0] 100 (0, 0))) := HB6.out
  have HPB7 : Hid (w6.drew.heap[P]? = some (.cells #[.string ⟨#[97]⟩, .slice (some ⟨gc, oc, none⟩) 1 d, .bool false, .int .i64 0] 162 (0, 0))) := HPB6.out
  have hb7 : Below w.heap.size w w6.drew := hb6.drew
  clear a0 a1 a2 a3 ha hb6 HB6 HPB6 s6
  generalize w6.drew = w7 at *
  go_wp2_with fail
  refine (first_2z _ _ rfl _).mono ?_
  rintro e w' ⟨rfl, rfl⟩
  have hba : Below w7.heap.size w7 (w7.alloc (.cells #[.int .i64 0, .int .i64 0] 36)) := (Below.refl _ _).alloc (Nat.le_refl _) _
  have HB8 := Lib.hid ((hba.block _ (Array.getElem?_eq_some_iff.1 HB7.out).1).trans HB7.out)
  have HPB8 := Lib.hid ((hba.block _ (Array.getElem?_eq_some_iff.1 HPB7.out).1).trans HPB7.out)
  have hb8 := below_trans' hb7 hba
  clear hba hb7 HB7 HPB7
  generalize w7.alloc (.cells #[.int .i64 0, .int .i64 0] 36) = w8 at *
  obtain ⟨a0, a1, a2, a3, ha⟩ : w8.cell? ⟨P, 0, none⟩ = some (.string ⟨#[97]⟩) ∧ w8.cell? ⟨P, 1, none⟩ = some (.slice (some ⟨gc, oc, none⟩) 1 d) ∧ w8.cell? ⟨P, 2, none⟩ = some (.bool false) ∧ w8.cell? ⟨P, 3, none⟩ = some (.int .i64 0) ∧ P < w8.heap.size := by
    refine ⟨?_, ?_, ?_, ?_, (Array.getElem?_eq_some_iff.1 HPB8.out).1⟩ <;> (rw [cell_of_row w8 P _ _ _ _ HPB8.out]; rfl)
  have l1 : w8.cell? ⟨w.heap.size, 1, none⟩ = some (.slice none 0 0) := by rw [cell_of_row w8 _ _ _ _ _ HB8.out]; rfl
  have hi : inB 0 0 2 = true := rfl
  go_wp2_with fail
  rw [rounds_succ]
  go_wp2_with fail
  refine (in_any 0 0 2 w8).mono ?_
  rintro e w' ⟨rfl, rfl⟩
  rw [hi]
  go_wp2_with fail
  rw [rounds_succ]
  go_wp2_with fail
  refine wp_loop_rounds 1 ?_
  rw [rounds_succ]
  go_wp2_with fail
  go_ret
  exact ⟨rfl, hb8⟩
end Go.Proofs.YtfijplllfdmcoaaGreatDoor
