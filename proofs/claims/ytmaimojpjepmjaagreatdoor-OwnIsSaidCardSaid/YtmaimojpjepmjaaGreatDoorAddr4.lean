
/-
  Parts of an address: a name that is written well.
-/
import Derived.Test.YtmaimojpjepmjaaGreatDoorAddr3
namespace Go.Proofs.YtmaimojpjepmjaaGreatDoor
open Go.RowKit

def annB : ByteArray := ⟨#[65, 110, 110]⟩
set_option maxHeartbeats 1600000 in
set_option maxRecDepth 100000 in
theorem plain_yes (w : World) (hM : MaxAt w) (hT : Tabs w) :
    Calls Tryz.prog 153 #[.string ⟨#[65, 110, 110]⟩] w fun e w' => e = .returned (.bool true) ∧ Below w.heap.size w w' := by
  have hv := visible_any annB false w (by decide) hT
  rw [show visB false annB.data.toList = true by decide] at hv
  have HV := Lib.hid hv
  have HP := Lib.hid (fun wx => Tryz.strings_HasPrefix annB ⟨#[32]⟩ wx)
  have HS := Lib.hid (fun wx => Tryz.strings_HasSuffix annB ⟨#[32]⟩ wx (by decide))
  have HMX := Lib.hid hM
  rw [show Lib.hasPrefix annB.data.toList (⟨#[32]⟩ : ByteArray).data.toList = false by decide] at HP
  rw [show Lib.hasSuffix annB.data.toList (⟨#[32]⟩ : ByteArray).data.toList = false by decide] at HS
  clear hv hM hT
  go_enter Tryz.func153, Tryz.ntmps153
  go_wp2_with fail
  refine HV.out.mono ?_
  rintro e w2 ⟨rfl, hb2⟩
  have HB2 := Lib.hid hb2
  obtain ⟨m, hm⟩ := HMX.out.below hb2
  have hcn := Tryz.strings_Contains annB ⟨#[32, 32]⟩ m w2 (by decide) hm
  rw [show Lib.contains annB.data.toList (⟨#[32, 32]⟩ : ByteArray).data.toList = false by decide] at hcn
  have HC := Lib.hid hcn
  clear hb2 hm hcn
  go_wp2_with fail
  refine (HP.out w2).mono ?_
  rintro e w3 ⟨rfl, rfl⟩
  go_wp2_with fail
  refine (HS.out _).mono ?_
  rintro e w4 ⟨rfl, rfl⟩
  go_wp2_with fail
  refine HC.out.mono ?_
  rintro e w5 ⟨rfl, rfl⟩
  go_wp2_with fail
  go_ret
  exact ⟨rfl, HB2.out⟩
end Go.Proofs.YtmaimojpjepmjaaGreatDoor
