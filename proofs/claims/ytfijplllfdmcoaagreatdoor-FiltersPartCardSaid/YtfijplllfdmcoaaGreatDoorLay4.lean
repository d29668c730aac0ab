
/-
  What ReadLayout returns of one line that asks a field.
-/
import Derived.Test.YtfijplllfdmcoaaGreatDoorLay3
import Derived.Deep.RegionHeld3
import Derived.Deep.DrawnRows
import Derived.Laws.EntriesVeiled
namespace Go.Proofs.YtfijplllfdmcoaaGreatDoor
open Go.RowKit
attribute [local go_sem ↓] Go.wp_at_zero Go.wp_at_succ

abbrev lineB : ByteArray := ⟨#[97, 115, 107, 32, 97, 32, 111, 110, 101, 32, 110, 111, 110, 101, 32, 98]⟩
theorem line_nl : (⟨#[97, 115, 107, 32, 97, 32, 111, 110, 101, 32, 110, 111, 110, 101, 32, 98, 10]⟩ : ByteArray) = lineB ++ ⟨#[10]⟩ := by decide +kernel
theorem line_split : splitC 32 lineB.data.toList = lineL := by decide +kernel
theorem line_one : splitC 10 lineB.data.toList = [lineB.data.toList] := by decide +kernel
theorem line_words : Lib.containsS ((lineL.map bag).take 5) ⟨#[]⟩ = false := by decide +kernel
theorem contains_line (A : Option Addr) (c : Nat) (w : World) (h : StrsAt w A 5 c lineL) : Calls Tryz.prog 54 #[.slice A 5 c, .string ⟨#[]⟩] w fun e w' => e = .returned (.bool false) ∧ w' = w := by
  obtain ⟨g, off, rfl, _, _⟩ := h.str (by omega)
  have k := Tryz.slices_Contains_string g off 5 c (lineL.map bag) ⟨#[]⟩ w (by decide) (by omega) h.bags
  rw [line_words] at k
  exact k
def LineNext (w : World) (L : Nat) (e : Ending) (w' : World) : Prop := ∃ Q cq C d, e = .returned (.int .i64 (-1)) ∧ w'.heap[L]? = some (.cells #[.slice Q 1 cq, .slice none 0 0] 100 (0, 0)) ∧ ElemsAt AskE w' Q 1 cq [([97], (C, 1, d), false, 0)] ∧ StrsAt w' C 1 d [[98]] ∧ w.grownBy w' (some L)
set_option maxHeartbeats 3200000 in
set_option maxRecDepth 100000 in
theorem lines_ab (L : Nat) (w : World) (hS : StandAt w) (hL : w.heap[L]? = some lay0) :
    Calls Tryz.prog 94 #[.string (lineB ++ ⟨#[10]⟩), .func (.func 95) #[] #[.pointer (some ⟨L, 0, none⟩)]] w (LineNext w L) := by
  have hll := (Array.getElem?_eq_some_iff.1 hL).1
  have HLN := Lib.hid (lines_nl lineB w (by decide) hS.max)
  have eg : ∀ args w, (callFunc 95 args).run Tryz.prog w = .ok (.enter 95 args) w := enters_of Tryz.func95 (by kernel_rfl) rfl
  go_enter Tryz.func94, Tryz.ntmps94
  go_wp2_with fail
  refine HLN.out.mono ?_
  rintro e w1 ⟨A, n, c, rfl, hs, hb, hn⟩
  rw [line_one] at hs
  obtain rfl : n = 1 := hs.1
  obtain ⟨g, off, rfl, hg, hc⟩ := hs.str (by omega)
  have x0 : w1.cell? ⟨g, off, none⟩ = some (.string lineB) := hc 0 (by omega)
  have hcc := hs.2.1
  have HS1 := Lib.hid (hS.below hb)
  have HL1 := Lib.hid ((hb.block _ hll).trans hL)
  clear hs hc HLN hn
  go_wp2_with fail
  refine wp_loop_rounds 2 ?_
  rw [rounds_succ]
  go_wp2_with fail
  refine (split_any lineB 32 w1 (by decide) HS1.out.max).mono ?_
  rintro e w2 ⟨B, m, k, rfl, hs2, hb2, hn2⟩
  rw [line_split] at hs2
  obtain rfl : m = 5 := hs2.1
  have HL2 := Lib.hid ((hb2.block _ (Array.getElem?_eq_some_iff.1 HL1.out).1).trans HL1.out)
  have HS2 := Lib.hid (HS1.out.below hb2)
  have HW := Lib.hid hs2
  have HBB := Lib.hid (below_trans' hb hb2)
  clear hs2 x0 HL1 HS1 hn2 hb hb2
  go_wp2_with fail
  refine (contains_line B k _ HW.out).mono ?_
  rintro e w3 ⟨rfl, rfl⟩
  go_wp2_with fail
  refine (take_ab B k L _ HW.out HS2.out HL2.out).mono ?_
  rintro e w4 ⟨Q, cq, C, d, rfl, hL4, hQ4, hC4, hg4⟩
  have HP := Lib.hid (show LineNext w L (.returned (.int .i64 (-1))) w4 from ⟨Q, cq, C, d, rfl, hL4, hQ4, hC4, grown_trans (below_grown HBB.out _) hg4⟩)
  clear hL4 hQ4 hC4 hg4
  go_wp2_with fail
  rw [rounds_succ]
  go_wp2_with fail
  go_ret
  exact HP.out
def LayPost (w : World) (e : Ending) (w' : World) : Prop := ∃ Q c, e = .returned (.tuple #[.agg #[.slice Q 1 c, .slice none 0 0], .int .i64 0, .int .i64 0]) ∧ Below w.heap.size w w'
theorem line_len : (lineB ++ ⟨#[10]⟩ : ByteArray).size = 17 := by decide +kernel
set_option maxHeartbeats 3200000 in
set_option maxRecDepth 100000 in
theorem layout_ab (w : World) (hS : StandAt w) :
    Calls Tryz.prog 47 #[.string ⟨#[97, 115, 107, 32, 97, 32, 111, 110, 101, 32, 110, 111, 110, 101, 32, 98, 10]⟩] w (LayPost w) := by
  rw [line_nl]
  have HLA := Lib.hid lines_ab
  have hsz := line_len
  generalize (lineB ++ ⟨#[10]⟩ : ByteArray) = s at *
  go_enter Tryz.func47, Tryz.ntmps47
  go_upto_region 4 with (fail)
  have hR := heap_alloc_new w lay0
  have hLb := heap_alloc_new (w.alloc lay0) lay0
  have hz : (w.alloc lay0).heap.size = w.heap.size + 1 := by simp
  rw [hz] at hLb
  have hR2 := (Below.heap_alloc (w.alloc lay0) lay0 w.heap.size (by simp)).trans hR
  have hB : Below w.heap.size w ((w.alloc lay0).alloc lay0) := ((Below.refl _ _).alloc (Nat.le_refl _) _).alloc (by simp) _
  clear hR hz
  generalize (w.alloc lay0).alloc lay0 = w1 at *
  have HR := Lib.hid hR2; clear hR2
  have HS1 := Lib.hid (hS.below hB)
  have HL := Lib.hid hLb; clear hLb
  go_wp2_with fail
  refine (HLA.out (w.heap.size + 1) w1 HS1.out HL.out).mono ?_
  rintro e w2 ⟨Q, cq, C, d, rfl, hL2, hQ2, hC2, hg2⟩
  have HL2 := Lib.hid hL2
  have HR2 := Lib.hid (blk_row HR.out hg2 (ne_some (by omega)))
  have HG2 := Lib.hid hg2
  have HQ2 := Lib.hid hQ2
  have HC2 := Lib.hid hC2
  clear hL2 hg2 hQ2 hC2 HR HL HLA HS1
  obtain ⟨b0, b1, v0, v1, v2⟩ := two_c HL2.out
  obtain ⟨d0, d1, u0, u1, u2⟩ := two_c HR2.out
  go_wp2_with fail
  refine (checkLayout_ab Q C cq d _ HQ2.out HC2.out).mono ?_
  rintro e w3 ⟨rfl, hb3⟩
  have HL3 := Lib.hid ((hb3.block _ v2).trans HL2.out)
  have HR3 := Lib.hid ((hb3.block _ u2).trans HR2.out)
  have HG3 := Lib.hid (grown_below HG2.out hb3)
  clear b0 b1 v0 v1 v2 d0 d1 u0 u1 u2 HL2 HR2 HG2 HQ2 HC2 hb3
  obtain ⟨b0, b1, v0, v1, v2⟩ := two_c HL3.out
  obtain ⟨d0, d1, u0, u1, u2⟩ := two_c HR3.out
  go_wp2_with fail
  have hgs : w3.grownBy ((w3.setCell ⟨w.heap.size, 0, none⟩ (.slice Q 1 cq)).setCell ⟨w.heap.size, 1, none⟩ (.slice none 0 0)) (some w.heap.size) := grown_trans (grown_setCell _ _ _ _) (grown_setCell _ _ _ _)
  refine bodyPost_ret (v := .tuple #[.agg #[.slice Q 1 cq, .slice none 0 0], .int .i64 0, .int .i64 0]) (by simp [results, Tryz.results47, go_sem, d0, d1]) rfl ⟨_, _, rfl, ?_⟩
  have h3 : Below w.heap.size w w3 := hB.grown HG3.out hB.size (fun i e => by have := Option.some.inj e; omega)
  exact h3.grown hgs h3.size (fun i e => by have := Option.some.inj e; omega)
end Go.Proofs.YtfijplllfdmcoaaGreatDoor
