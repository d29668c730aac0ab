
/-
  Parts of an address: isName, right.
-/
import Derived.Test.YtmaimojpjepmjaaGreatDoorAddr4
namespace Go.Proofs.YtmaimojpjepmjaaGreatDoor
open Go.RowKit

set_option maxHeartbeats 1600000 in
set_option maxRecDepth 100000 in
theorem isName_yes (w : World) (hM : MaxAt w) (hT : Tabs w) :
    Calls Tryz.prog 129 #[.string ⟨#[65, 110, 110]⟩] w fun e w' => e = .returned (.bool true) ∧ Below w.heap.size w w' := by
  have HP := Lib.hid (plain_yes w hM hT)
  have HC := Lib.hid (fun wx => Tryz.strings_ContainsAny (fun w => rfl) annB ⟨#[34, 60, 62, 44, 59]⟩ wx (by decide) (by decide) (fun j b h => by
    have hm : b ∈ annB.data.toList := List.mem_of_getElem? h
    simp [annB] at hm
    rcases hm with rfl | rfl | rfl <;> decide) (fun j b h => by
    have hm : b ∈ (⟨#[34, 60, 62, 44, 59]⟩ : ByteArray).data.toList := List.mem_of_getElem? h
    simp at hm
    rcases hm with rfl | rfl | rfl | rfl | rfl <;> decide))
  rw [show Lib.containsAny annB.data.toList (⟨#[34, 60, 62, 44, 59]⟩ : ByteArray).data.toList = false by decide] at HC
  clear hM hT
  go_enter Tryz.func129, Tryz.ntmps129
  go_wp2_with fail
  refine HP.out.mono ?_
  rintro e w2 ⟨rfl, hb2⟩
  have HB2 := Lib.hid hb2
  clear hb2
  go_wp2_with fail
  refine (HC.out w2).mono ?_
  rintro e w3 ⟨rfl, hb3⟩
  have HB3 := Lib.hid (HB2.out.trans (hb3.mono HB2.out.size))
  clear hb3
  go_wp2_with fail
  go_ret
  exact ⟨rfl, HB3.out⟩
set_option maxHeartbeats 1600000 in
set_option maxRecDepth 100000 in
theorem right_yes (w : World) (hM : MaxAt w) (hT : Tabs w) :
    Calls Tryz.prog 102 #[.agg #[.string ⟨#[65, 110, 110]⟩, .string ⟨#[97, 64, 98, 46, 100, 101]⟩]] w fun e w' => e = .returned (.bool true) ∧ Below w.heap.size w w' := by
  have HN := Lib.hid (fun wx (h1 : MaxAt wx) (h2 : Tabs wx) => isName_yes wx h1 h2)
  have HM := Lib.hid (fun wx (h1 : MaxAt wx) => isMail_yes wx h1)
  have HMX := Lib.hid hM
  have HTX := Lib.hid hT
  clear hM hT
  go_enter Tryz.func102, Tryz.ntmps102
  go_wp2_with fail
  have hb1 : Below w.heap.size w (w.alloc (.cells #[.string ⟨#[65, 110, 110]⟩, .string ⟨#[97, 64, 98, 46, 100, 101]⟩] 27)) := (Below.refl _ _).alloc (Nat.le_refl _) _
  have hx : (w.alloc (.cells #[.string ⟨#[65, 110, 110]⟩, .string ⟨#[97, 64, 98, 46, 100, 101]⟩] 27)).heap[w.heap.size]? = some (.cells #[.string ⟨#[65, 110, 110]⟩, .string ⟨#[97, 64, 98, 46, 100, 101]⟩] 27 (0, 0)) := heap_alloc_new w _
  have HB1 := Lib.hid hb1
  have HX := Lib.hid hx
  clear hb1 hx
  have HM1 := Lib.hid (HMX.out.below HB1.out)
  have HT1 := Lib.hid (HTX.out.below HB1.out)
  have HPZ : Hid (w.heap.size < (w.alloc (.cells #[.string ⟨#[65, 110, 110]⟩, .string ⟨#[97, 64, 98, 46, 100, 101]⟩] 27)).heap.size) := by show _ < _; simp
  generalize w.alloc (.cells #[.string ⟨#[65, 110, 110]⟩, .string ⟨#[97, 64, 98, 46, 100, 101]⟩] 27) = w1 at *
  refine (HN.out w1 HM1.out HT1.out).mono ?_
  rintro e w2 ⟨rfl, hb2⟩
  have HB2 := Lib.hid (HB1.out.trans (hb2.mono HB1.out.size))
  have hx2 := (hb2.block _ HPZ.out).trans HX.out
  obtain ⟨y0, y1, _, _, _⟩ := two_c hx2
  have HM2 := Lib.hid (HM1.out.below hb2)
  clear hb2 hx2
  go_wp2_with fail
  refine (HM.out w2 HM2.out).mono ?_
  rintro e w3 ⟨rfl, hb3⟩
  have HB3 := Lib.hid (HB2.out.trans (hb3.mono HB2.out.size))
  clear hb3
  go_wp2_with fail
  go_ret
  exact ⟨rfl, HB3.out⟩
end Go.Proofs.YtmaimojpjepmjaaGreatDoor
