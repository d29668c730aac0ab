
/-
  What Parse returns at the search 'a and b'.
-/
import Derived.Test.YtfijplllfdmcoaaGreatDoorChkQ2
namespace Go.Proofs.YtfijplllfdmcoaaGreatDoor
open Go.RowKit

set_option maxHeartbeats 800000 in
theorem check_and (Q A B : Option Addr) (c : Nat) (w : World) (hQ : ElemsAt QryE w Q 2 c [leafR A, leafR B]) (hA : StrsAt w A 1 1 [[97]]) (hBs : StrsAt w B 1 1 [[98]]) :
    Calls Tryz.prog 93 #[andQ Q c] w fun e w' => e = .returned (.int .i64 0) ∧ Below w.heap.size w w' := by
  have HQ := Lib.hid hQ; clear hQ
  have HA := Lib.hid hA; clear hA
  have HBS := Lib.hid hBs; clear hBs
  go_enter Tryz.func93, Tryz.ntmps93
  go_wp2_with fail
  have hq := heap_alloc_new w (.cells #[.int .i64 6, .slice none 0 0, .int .i64 0, .slice Q 2 c] 94)
  have hB1 : Below w.heap.size w (w.alloc (.cells #[.int .i64 6, .slice none 0 0, .int .i64 0, .slice Q 2 c] 94)) := (Below.refl _ _).alloc (Nat.le_refl _) _
  generalize w.alloc (.cells #[.int .i64 6, .slice none 0 0, .int .i64 0, .slice Q 2 c] 94) = w1 at *
  refine (size_any Q A B c w1 (HQ.out.keep hB1)).mono ?_
  rintro e w2 ⟨rfl, hb⟩
  have hB2 := below_trans' hB1 hb
  obtain ⟨d0, d1, d2, d3, _⟩ := four_cells ((hb.block _ (Array.getElem?_eq_some_iff.1 hq).1).trans hq)
  clear hb hB1 hq
  go_wp2_with fail
  refine (inner_and Q A B c w2 (HQ.out.keep hB2) (HA.out.keep hB2) (HBS.out.keep hB2)).mono ?_
  rintro e w3 ⟨rfl, hb⟩
  have hB3 := below_trans' hB2 hb
  go_wp2_with fail
  go_ret
  exact ⟨rfl, hB3⟩
def ParsePost (w : World) (e : Ending) (w' : World) : Prop := ∃ Q c, e = .returned (.tuple #[andQ Q c, .int .i64 0, .int .i64 0]) ∧ Below w.heap.size w w'
set_option maxHeartbeats 1600000 in
set_option maxRecDepth 100000 in
theorem parse_ab (w : World) : Calls Tryz.prog 46 #[.string ⟨#[97, 32, 97, 110, 100, 32, 98]⟩] w (ParsePost w) := by
  go_enter Tryz.func46, Tryz.ntmps46
  go_wp2_with fail
  have hr1 : ReaderAt ((w.alloc (.cells #[.int .i64 0, .slice none 0 0, .int .i64 0, .slice none 0 0] 94)).alloc (.cells #[.string ⟨#[97, 32, 97, 110, 100, 32, 98]⟩, .int .i64 0, .int .i64 0, .int .i64 0, .int .i64 0, .slice none 0 0, .int .i64 0, .slice none 0 0] 156)) (w.heap.size + 1) textAB 0 0 0 0 (.slice none 0 0) := by
    have h := heap_alloc_new (w.alloc (.cells #[.int .i64 0, .slice none 0 0, .int .i64 0, .slice none 0 0] 94)) (.cells #[.string ⟨#[97, 32, 97, 110, 100, 32, 98]⟩, .int .i64 0, .int .i64 0, .int .i64 0, .int .i64 0, .slice none 0 0, .int .i64 0, .slice none 0 0] 156)
    have e : (w.alloc (.cells #[.int .i64 0, .slice none 0 0, .int .i64 0, .slice none 0 0] 94)).heap.size = w.heap.size + 1 := by simp
    rw [e] at h; exact h
  have hb0 := (Below.heap_alloc (w.alloc (.cells #[.int .i64 0, .slice none 0 0, .int .i64 0, .slice none 0 0] 94)) (.cells #[.string ⟨#[97, 32, 97, 110, 100, 32, 98]⟩, .int .i64 0, .int .i64 0, .int .i64 0, .int .i64 0, .slice none 0 0, .int .i64 0, .slice none 0 0] 156) w.heap.size (by simp)).trans (heap_alloc_new w (.cells #[.int .i64 0, .slice none 0 0, .int .i64 0, .slice none 0 0] 94))
  have hB1 : Below w.heap.size w ((w.alloc (.cells #[.int .i64 0, .slice none 0 0, .int .i64 0, .slice none 0 0] 94)).alloc (.cells #[.string ⟨#[97, 32, 97, 110, 100, 32, 98]⟩, .int .i64 0, .int .i64 0, .int .i64 0, .int .i64 0, .slice none 0 0, .int .i64 0, .slice none 0 0] 156)) := ((Below.refl _ _).alloc (Nat.le_refl _) _).alloc (by simp) _
  generalize (w.alloc (.cells #[.int .i64 0, .slice none 0 0, .int .i64 0, .slice none 0 0] 94)).alloc (.cells #[.string ⟨#[97, 32, 97, 110, 100, 32, 98]⟩, .int .i64 0, .int .i64 0, .int .i64 0, .int .i64 0, .slice none 0 0, .int .i64 0, .slice none 0 0] 156) = w1 at *
  have HB0 := Lib.hid hb0; clear hb0
  obtain ⟨R, hR⟩ : ∃ R, R = w.heap.size + 1 := ⟨_, rfl⟩
  rw [← hR] at hr1 ⊢
  have hRw : w.heap.size < R := by omega
  clear hR
  refine (steps_a R w1 _ hr1).mono ?_
  rintro e w2 ⟨rfl, hN2⟩
  obtain ⟨A, hrd2, hsA, hnA, hg2⟩ : ∃ A, ReaderAt w2 R textAB 1 3 0 2 (.slice A 1 1) ∧ StrsAt w2 A 1 1 [[97]] ∧ (∀ g off, A = some ⟨g, off, none⟩ → w1.heap.size ≤ g) ∧ w1.grownBy w2 (some R) := hN2
  have hRl := hr1.lt
  have HSA := Lib.hid hsA; clear hsA
  have HRD := Lib.hid hrd2; clear hrd2 hr1
  have HG2 := Lib.hid hg2; clear hg2
  have HNA := Lib.hid hnA; clear hnA
  go_wp2_with fail
  refine (or_any R A w2 HRD.out).mono ?_
  rintro e w3 ⟨Q, c, B, rfl, hq, hs, nq, nb, hN⟩
  obtain ⟨A7, hrd3, _, _, hg3⟩ := hN
  have HQ3 := Lib.hid hq; clear hq
  have HSB3 := Lib.hid hs; clear hs
  have HSA3 : Hid (StrsAt w3 A 1 1 [[97]]) := ElemsAt.grown HSA.out hg3 (fun g off e => ne_some (by have := HNA.out g off e; omega))
  have hg13 := grown_trans HG2.out hg3
  have HB3 := Lib.hid (blk_row HB0.out hg13 (ne_some (by omega)))
  have hB3 : Below w.heap.size w w3 := hB1.grown hg13 hB1.size (fun i e => by have := Option.some.inj e; omega)
  obtain ⟨c0, c1, c2, c3, c4, c5, c6, c7, cf⟩ := hrd3.cells
  have hRl3 := hrd3.lt
  clear c0 c1 c3 c4 c5 c6 c7 cf hg3 hg13 hrd3 HRD HG2 HB0 HSA nq nb
  go_wp2_with fail
  have hq4 := heap_alloc_new w3 (.cells #[.int .i64 6, .slice none 0 0, .int .i64 0, .slice Q 2 c] 94)
  have hB34 : Below w3.heap.size w3 (w3.alloc (.cells #[.int .i64 6, .slice none 0 0, .int .i64 0, .slice Q 2 c] 94)) := (Below.refl _ _).alloc (Nat.le_refl _) _
  clear c2
  generalize w3.alloc (.cells #[.int .i64 6, .slice none 0 0, .int .i64 0, .slice Q 2 c] 94) = w4 at *
  refine (check_and Q A B c w4 (HQ3.out.keep hB34) (HSA3.out.keep hB34) (HSB3.out.keep hB34)).mono ?_
  rintro e w5 ⟨rfl, hb⟩
  have hB35 := below_trans' hB34 hb
  obtain ⟨d0, d1, d2, d3, _⟩ := four_cells ((hb.block _ (Array.getElem?_eq_some_iff.1 hq4).1).trans hq4)
  obtain ⟨e0, e1, e2, e3, f0, f1, f2, f3, hl5⟩ := four_cells ((hB35.block w.heap.size (Array.getElem?_eq_some_iff.1 HB3.out).1).trans HB3.out)
  have hB5 := below_trans' hB3 hB35
  have HBF : Hid (∀ v0 v1 v2 v3, Below w.heap.size w ((((w5.setCell ⟨w.heap.size, 0, none⟩ v0).setCell ⟨w.heap.size, 1, none⟩ v1).setCell ⟨w.heap.size, 2, none⟩ v2).setCell ⟨w.heap.size, 3, none⟩ v3)) := fun v0 v1 v2 v3 => hB5.grown (grown_row4 w5 w.heap.size v0 v1 v2 v3) (Nat.le_of_lt hl5) (fun i e => by have := Option.some.inj e; omega)
  clear hb hq4 hB34 hB35 hB5 HQ3 HSA3 HSB3
  go_wp2_with fail
  exact bodyPost_ret (v := .tuple #[andQ Q c, .int .i64 0, .int .i64 0]) (by simp [results, Tryz.results46, go_sem, e0, e1, e2, e3]) rfl ⟨_, _, rfl, HBF.out _ _ _ _⟩
end Go.Proofs.YtfijplllfdmcoaaGreatDoor
