
/-
  What Address returns at one text; threads reports true.
-/
import Derived.Test.YtmaimojpjepmjaaGreatDoorAddr6
namespace Go.Proofs.YtmaimojpjepmjaaGreatDoor
open Go.RowKit

set_option maxHeartbeats 1600000 in
set_option maxRecDepth 100000 in
theorem addressE_yes (w : World) (hM : MaxAt w) (hT : Tabs w) :
    Calls Tryz.prog 35 #[.string ⟨#[65, 110, 110, 32, 60, 97, 64, 98, 46, 100, 101, 62]⟩] w fun e w' => e = .returned (.tuple #[.agg #[.string ⟨#[65, 110, 110]⟩, .string ⟨#[97, 64, 98, 46, 100, 101]⟩], .int .i64 0]) ∧ Below w.heap.size w w' := by
  have HMX := Lib.hid hM
  have HTX := Lib.hid hT
  clear hM hT
  go_enter Tryz.func35, Tryz.ntmps35
  go_wp2_with fail
  have hb0 : Below w.heap.size w (w.alloc (.cells #[.string ⟨#[]⟩, .string ⟨#[]⟩] 27)) := (Below.refl _ _).alloc (Nat.le_refl _) _
  have hx0 : (w.alloc (.cells #[.string ⟨#[]⟩, .string ⟨#[]⟩] 27)).heap[w.heap.size]? = some (.cells #[.string ⟨#[]⟩, .string ⟨#[]⟩] 27 (0, 0)) := heap_alloc_new w _
  have HB0 := Lib.hid hb0
  have HX0 := Lib.hid hx0
  clear hb0 hx0
  generalize w.alloc (.cells #[.string ⟨#[]⟩, .string ⟨#[]⟩] 27) = w0 at *
  obtain ⟨R, hR⟩ : ∃ R, w.heap.size = R := ⟨_, rfl⟩
  have HR := Lib.hid hR
  rw [hR] at HX0 ⊢
  clear hR
  refine (address_yes w0 (HMX.out.below HB0.out) (HTX.out.below HB0.out)).mono ?_
  rintro e w1 ⟨rfl, hb1⟩
  have HB1 := Lib.hid (HB0.out.trans (hb1.mono HB0.out.size))
  have HX1 := Lib.hid ((hb1.block R (two_c HX0.out).2.2.2.2).trans HX0.out)
  clear hb1 HB0 HX0
  go_upto_region 4 with (fail)
  have hRl := (two_c HX1.out).2.2.2.2
  have hx2 : (w1.alloc (.cells #[.string ⟨#[65, 110, 110]⟩, .string ⟨#[97, 64, 98, 46, 100, 101]⟩] 27)).heap[w1.heap.size]? = some (.cells #[.string ⟨#[65, 110, 110]⟩, .string ⟨#[97, 64, 98, 46, 100, 101]⟩] 27 (0, 0)) := heap_alloc_new w1 _
  have hb2 : Below w1.heap.size w1 (w1.alloc (.cells #[.string ⟨#[65, 110, 110]⟩, .string ⟨#[97, 64, 98, 46, 100, 101]⟩] 27)) := (Below.refl _ _).alloc (Nat.le_refl _) _
  have HB2 := Lib.hid (HB1.out.trans (hb2.mono HB1.out.size))
  have HX2 := Lib.hid ((hb2.block R hRl).trans HX1.out)
  have HY2 := Lib.hid hx2
  clear hb2 hx2 HX1 HB1
  generalize w1.alloc (.cells #[.string ⟨#[65, 110, 110]⟩, .string ⟨#[97, 64, 98, 46, 100, 101]⟩] 27) = w2 at *
  generalize w1.heap.size = P at *
  obtain ⟨p0, p1, pf0, pf1, pl⟩ := two_c HY2.out
  obtain ⟨r0, r1, rf0, rf1, rl⟩ := two_c HX2.out
  have hRw : w.heap.size ≤ R := Nat.le_of_eq HR.out
  have HBS : Hid (Below w.heap.size w ((w2.setCell ⟨R, 0, none⟩ (.string ⟨#[65, 110, 110]⟩)).setCell ⟨R, 1, none⟩ (.string ⟨#[97, 64, 98, 46, 100, 101]⟩))) :=
    (HB2.out.grown (grown_setCell w2 R 0 _) (by have := HB2.out.size; omega) (fun i e => by have := Option.some.inj e; omega)).grown (grown_setCell _ R 1 _) (by have := HB2.out.size; simp [World.setCell]; omega) (fun i e => by have := Option.some.inj e; omega)
  have hxf : ((w2.setCell ⟨R, 0, none⟩ (.string ⟨#[65, 110, 110]⟩)).setCell ⟨R, 1, none⟩ (.string ⟨#[97, 64, 98, 46, 100, 101]⟩)).heap[R]? = some (.cells #[.string ⟨#[65, 110, 110]⟩, .string ⟨#[97, 64, 98, 46, 100, 101]⟩] 27 (0, 0)) := by
    simp [World.setCell, Array.getElem?_modify, HX2.out]
  have HXF := Lib.hid hxf
  clear hxf
  go_wp2_with fail
  generalize (w2.setCell ⟨R, 0, none⟩ (.string ⟨#[65, 110, 110]⟩)).setCell ⟨R, 1, none⟩ (.string ⟨#[97, 64, 98, 46, 100, 101]⟩) = wf at *
  clear r0 r1 rf0 rf1
  obtain ⟨r0, r1, rf0, rf1, rlf⟩ := two_c HXF.out
  exact bodyPost_ret (v := .tuple #[.agg #[.string ⟨#[65, 110, 110]⟩, .string ⟨#[97, 64, 98, 46, 100, 101]⟩], .int .i64 0]) (by simp [results, Tryz.results35, go_sem, r0, r1]) rfl ⟨rfl, HBS.out⟩

set_option maxHeartbeats 1600000 in
set_option maxRecDepth 100000 in
theorem threads_any (w : World) (hM : MaxAt w) (hT : Tabs w) :
    Calls Tryz.prog 11 #[] w fun e w' => e = .returned (.bool true) ∧ Below w.heap.size w w' := by
  have HA := Lib.hid (addressE_yes w hM hT)
  clear hM hT
  go_enter Tryz.func11, Tryz.ntmps11
  go_wp2_with fail
  refine HA.out.mono ?_
  rintro e w1 ⟨rfl, hb1⟩
  go_wp2_with fail
  go_ret
  exact ⟨rfl, hb1.alloc hb1.size _⟩
end Go.Proofs.YtmaimojpjepmjaaGreatDoor
