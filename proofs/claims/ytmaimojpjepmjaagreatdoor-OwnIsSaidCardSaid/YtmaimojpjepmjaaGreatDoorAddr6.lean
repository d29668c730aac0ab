
/-
  What address returns at one text.
-/
import Derived.Test.YtmaimojpjepmjaaGreatDoorAddr5
import Derived.Deep.RegionLaw
namespace Go.Proofs.YtmaimojpjepmjaaGreatDoor
open Go.RowKit

def fullB : ByteArray := ⟨#[65, 110, 110, 32, 60, 97, 64, 98, 46, 100, 101, 62]⟩
set_option maxHeartbeats 1600000 in
set_option maxRecDepth 100000 in
theorem address_yes (w : World) (hM : MaxAt w) (hT : Tabs w) :
    Calls Tryz.prog 67 #[.string ⟨#[65, 110, 110, 32, 60, 97, 64, 98, 46, 100, 101, 62]⟩] w fun e w' => e = .returned (.tuple #[.agg #[.string ⟨#[65, 110, 110]⟩, .string ⟨#[97, 64, 98, 46, 100, 101]⟩], .bool true]) ∧ Below w.heap.size w w' := by
  have H1 := Lib.hid (fun wx => Tryz.strings_Trim_one fullB 32 (by decide) wx (by decide))
  rw [show Lib.trimB fullB.data.toList 32 = fullB.data.toList by decide] at H1
  have H2 := Lib.hid (fun wx m hm => Tryz.strings_Cut fullB ⟨#[60]⟩ m wx (by decide) hm)
  rw [show Lib.cut fullB.data.toList (⟨#[60]⟩ : ByteArray).data.toList = ([65, 110, 110, 32], [97, 64, 98, 46, 100, 101, 62], true) by decide] at H2
  have H3 := Lib.hid (fun wx => Tryz.strings_CutSuffix ⟨#[97, 64, 98, 46, 100, 101, 62]⟩ ⟨#[62]⟩ wx (by decide))
  rw [show Lib.trimSuffix (⟨#[97, 64, 98, 46, 100, 101, 62]⟩ : ByteArray).data.toList (⟨#[62]⟩ : ByteArray).data.toList = [97, 64, 98, 46, 100, 101] by decide, show Lib.hasSuffix (⟨#[97, 64, 98, 46, 100, 101, 62]⟩ : ByteArray).data.toList (⟨#[62]⟩ : ByteArray).data.toList = true by decide] at H3
  have H4 : Hid (∀ wx : World, Calls Tryz.prog 65 #[.string ⟨#[97, 64, 98, 46, 100, 101]⟩] wx fun e w' => e = .returned (.string ⟨#[97, 64, 98, 46, 100, 101]⟩) ∧ Below wx.heap.size wx w') := fun wx => lower_any mailB wx (by decide)
  have H5 := Lib.hid (fun wx => Tryz.strings_TrimRight_one ⟨#[65, 110, 110, 32]⟩ 32 (by decide) wx (by decide))
  rw [show Lib.trimRightB (⟨#[65, 110, 110, 32]⟩ : ByteArray).data.toList 32 = [65, 110, 110] by decide] at H5
  have H6 := Lib.hid (fun wx => Tryz.strings_CutPrefix annB ⟨#[34]⟩ wx)
  rw [show Lib.trimPrefix annB.data.toList (⟨#[34]⟩ : ByteArray).data.toList = [65, 110, 110] by decide, show Lib.hasPrefix annB.data.toList (⟨#[34]⟩ : ByteArray).data.toList = false by decide] at H6
  have HMX := Lib.hid hM
  have HTX := Lib.hid hT
  clear hM hT
  go_enter Tryz.func67, Tryz.ntmps67
  go_wp2_with fail
  have hb0 : Below w.heap.size w (w.alloc (.cells #[.string ⟨#[]⟩, .string ⟨#[]⟩] 27)) := (Below.refl _ _).alloc (Nat.le_refl _) _
  have hx0 : (w.alloc (.cells #[.string ⟨#[]⟩, .string ⟨#[]⟩] 27)).heap[w.heap.size]? = some (.cells #[.string ⟨#[]⟩, .string ⟨#[]⟩] 27 (0, 0)) := heap_alloc_new w _
  have HB0 := Lib.hid hb0
  have HX0 := Lib.hid hx0
  clear hb0 hx0
  generalize w.alloc (.cells #[.string ⟨#[]⟩, .string ⟨#[]⟩] 27) = w0 at *
  obtain ⟨R, hR⟩ : ∃ R, w.heap.size = R := ⟨_, rfl⟩
  have HR := Lib.hid hR
  rw [hR] at HX0 ⊢
  clear hR
  refine (H1.out w0).mono ?_
  rintro e w1 ⟨rfl, hw1⟩
  have hb1 : Below w0.heap.size w0 w1 := by
    rcases hw1 with rfl | rfl
    · exact Below.refl _ _
    · exact (Below.refl _ _).drew
  have HB1 := Lib.hid (HB0.out.trans (hb1.mono HB0.out.size))
  have HX1 := Lib.hid ((hb1.block R (two_c HX0.out).2.2.2.2).trans HX0.out)
  obtain ⟨m, hm⟩ := HMX.out.below HB1.out
  have HC := Lib.hid (H2.out w1 m hm)
  clear hw1 hb1 hm H1 H2 HB0 HX0
  go_wp2_with fail
  refine HC.out.mono ?_
  rintro e w2 ⟨rfl, q, hw2⟩
  have hb2 : Below w1.heap.size w1 w2 := by rw [hw2]; exact below_drewN (Below.refl _ _) q
  have HB2 := Lib.hid (HB1.out.trans (hb2.mono HB1.out.size))
  have HX2 := Lib.hid ((hb2.block R (two_c HX1.out).2.2.2.2).trans HX1.out)
  clear hw2 hb2 HC HB1 HX1
  go_wp2_with fail
  refine (H3.out w2).mono ?_
  rintro e w3 ⟨rfl, rfl⟩
  go_wp2_with fail
  refine (H4.out _).mono ?_
  rintro e w4 ⟨rfl, hb4⟩
  have HB4 := Lib.hid (HB2.out.trans (hb4.mono HB2.out.size))
  have HX4 := Lib.hid ((hb4.block R (two_c HX2.out).2.2.2.2).trans HX2.out)
  clear hb4 HB2 HX2 H3 H4
  go_wp2_with fail
  have hx5 : (w4.alloc (.cells #[.string ⟨#[]⟩, .string ⟨#[97, 64, 98, 46, 100, 101]⟩] 27)).heap[w4.heap.size]? = some (.cells #[.string ⟨#[]⟩, .string ⟨#[97, 64, 98, 46, 100, 101]⟩] 27 (0, 0)) := heap_alloc_new w4 _
  have hb5 : Below w4.heap.size w4 (w4.alloc (.cells #[.string ⟨#[]⟩, .string ⟨#[97, 64, 98, 46, 100, 101]⟩] 27)) := (Below.refl _ _).alloc (Nat.le_refl _) _
  have hRl := (two_c HX4.out).2.2.2.2
  have HB5 := Lib.hid (HB4.out.trans (hb5.mono HB4.out.size))
  have HX5 := Lib.hid ((hb5.block R hRl).trans HX4.out)
  have HY5 := Lib.hid hx5
  clear hb5 hx5 HX4 HB4
  generalize w4.alloc (.cells #[.string ⟨#[]⟩, .string ⟨#[97, 64, 98, 46, 100, 101]⟩] 27) = w5 at *
  generalize w4.heap.size = P at *
  refine (H5.out w5).mono ?_
  rintro e w6 ⟨rfl, rfl⟩
  go_wp2_with fail
  refine (H6.out _).mono ?_
  rintro e w7 ⟨rfl, rfl⟩
  obtain ⟨p0, p1, pf0, pf1, pl⟩ := two_c HY5.out
  clear H5 H6
  go_upto_region 23 with (fail)
  have hs8 := grown_setCell w7 P 0 (.string ⟨#[65, 110, 110]⟩)
  have hPw : w.heap.size ≤ P := by have := HR.out; omega
  have HB8 : Hid (Below w.heap.size w (w7.setCell ⟨P, 0, none⟩ (.string ⟨#[65, 110, 110]⟩))) := HB5.out.grown hs8 (by have := HB5.out.size; omega) (fun i e => by have := Option.some.inj e; omega)
  have HX8 := Lib.hid ((hs8.block R (by omega) (fun e => by have := Option.some.inj e; omega)).trans HX5.out)
  have HY8 : Hid ((w7.setCell ⟨P, 0, none⟩ (.string ⟨#[65, 110, 110]⟩)).heap[P]? = some (.cells #[.string ⟨#[65, 110, 110]⟩, .string ⟨#[97, 64, 98, 46, 100, 101]⟩] 27 (0, 0))) := by
    show _ = _
    simp [World.setCell, Array.getElem?_modify, HY5.out]
  clear hs8 p0 p1 pf0 pf1 HB5 HX5 HY5
  generalize w7.setCell ⟨P, 0, none⟩ (.string ⟨#[65, 110, 110]⟩) = w8 at *
  obtain ⟨p0, p1, pf0, pf1, pl⟩ := two_c HY8.out
  obtain ⟨r0, r1, rf0, rf1, rl⟩ := two_c HX8.out
  have HRT := Lib.hid (right_yes w8 (HMX.out.below HB8.out) (HTX.out.below HB8.out))
  have hRw : w.heap.size ≤ R := Nat.le_of_eq HR.out
  have HBS : Hid (Below w.heap.size w ((w8.setCell ⟨R, 0, none⟩ (.string ⟨#[65, 110, 110]⟩)).setCell ⟨R, 1, none⟩ (.string ⟨#[97, 64, 98, 46, 100, 101]⟩))) :=
    (HB8.out.grown (grown_setCell w8 R 0 _) (by have := HB8.out.size; omega) (fun i e => by have := Option.some.inj e; omega)).grown (grown_setCell _ R 1 _) (by have := HB8.out.size; simp [World.setCell]; omega) (fun i e => by have := Option.some.inj e; omega)
  have HBL : Hid (∀ wx, Below w.heap.size w wx → MaxAt wx ∧ Tabs wx) := fun wx hb => ⟨HMX.out.below hb, HTX.out.below hb⟩
  go_region_law (first
    | (go_simp; go_at_call 102; (with_reducible refine Calls.mono (right_yes _ ?_ ?_) ?_); (exact (HBL.out _ (by first | exact HB8.out | exact HB8.out.drew)).1); (exact (HBL.out _ (by first | exact HB8.out | exact HB8.out.drew)).2); rintro e w9 ⟨rfl, hb9⟩; have hb98 : Below w8.heap.size w8 w9 := (by first | exact hb9 | exact ((Below.refl _ _).drew).trans hb9); have HB9 := Lib.hid (HB8.out.trans (hb98.mono HB8.out.size)); have HX9 := Lib.hid ((hb98.block R rl).trans HX8.out); have HY9 := Lib.hid ((hb98.block P pl).trans HY8.out); clear hb9 hb98 r0 r1 rf0 rf1 p0 p1 pf0 pf1; obtain ⟨r0, r1, rf0, rf1, rl9⟩ := two_c HX9.out; obtain ⟨p0, p1, pf0, pf1, pl9⟩ := two_c HY9.out)
    | (go_simp; go_at_call 102; (with_reducible refine Calls.mono (right_yes _ ?_ ?_) ?_); (exact (HBL.out _ (by first | exact HBS.out | exact HBS.out.drew)).1); (exact (HBL.out _ (by first | exact HBS.out | exact HBS.out.drew)).2); rintro e w9 ⟨rfl, hb9⟩; have HS9 := Lib.hid hb9; clear hb9))
  all_goals
    first
      | (have hz9 := HB9.out.size
         have HBF := Lib.hid ((HB9.out.grown (grown_setCell w9 R 0 (.string ⟨#[65, 110, 110]⟩)) (by omega) (fun i e => by have := Option.some.inj e; omega)).grown (grown_setCell _ R 1 (.string ⟨#[97, 64, 98, 46, 100, 101]⟩)) (by simp [World.setCell]; omega) (fun i e => by have := Option.some.inj e; omega))
         have hxf : ((w9.setCell ⟨R, 0, none⟩ (.string ⟨#[65, 110, 110]⟩)).setCell ⟨R, 1, none⟩ (.string ⟨#[97, 64, 98, 46, 100, 101]⟩)).heap[R]? = some (.cells #[.string ⟨#[65, 110, 110]⟩, .string ⟨#[97, 64, 98, 46, 100, 101]⟩] 27 (0, 0)) := by
           simp [World.setCell, Array.getElem?_modify, HX9.out]
         generalize (w9.setCell ⟨R, 0, none⟩ (.string ⟨#[65, 110, 110]⟩)).setCell ⟨R, 1, none⟩ (.string ⟨#[97, 64, 98, 46, 100, 101]⟩) = wf at *
         clear r0 r1 rf0 rf1
         obtain ⟨r0, r1, rf0, rf1, rlf⟩ := two_c hxf
         clear hxf
         go_wp2_with fail
         exact bodyPost_ret (v := .tuple #[.agg #[.string ⟨#[65, 110, 110]⟩, .string ⟨#[97, 64, 98, 46, 100, 101]⟩], .bool true]) (by simp [results, Tryz.results67, go_sem, r0, r1]) rfl ⟨rfl, HBF.out⟩)
end Go.Proofs.YtmaimojpjepmjaaGreatDoor
