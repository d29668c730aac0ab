
/-
  Parts of an address: a mail that is written well.
-/
import Derived.Test.YtmaimojpjepmjaaGreatDoorAddr2
namespace Go.Proofs.YtmaimojpjepmjaaGreatDoor
open Go.RowKit

def mailB : ByteArray := ⟨#[97, 64, 98, 46, 100, 101]⟩
theorem small_ok (x : Str) (h : (decide (1 ≤ x.length) && decide (x.length ≤ 30) && x.all fun b => decide (97 ≤ b.toNat) && decide (b.toNat ≤ 122)) = true) : smallL x := by
  simp only [Bool.and_eq_true, decide_eq_true_eq, List.all_eq_true] at h
  exact ⟨h.1.1, h.1.2, h.2⟩
theorem cut_mail : Lib.cut mailB.data.toList (⟨#[64]⟩ : ByteArray).data.toList = ([97], [98, 46, 100, 101], true) := by decide
theorem dom_split : splitC 46 (⟨#[98, 46, 100, 101]⟩ : ByteArray).data.toList = [[98], [100, 101]] := by decide
theorem dom_yes (w : World) (hM : MaxAt w) : Calls Tryz.prog 155 #[.string ⟨#[98, 46, 100, 101]⟩] w fun e w' => e = .returned (.bool true) ∧ Below w.heap.size w w' := by
  refine isDomain_yes _ w (by decide) hM ?_ (by rw [dom_split]; decide)
  rw [dom_split]
  intro x hx
  simp only [List.mem_cons, List.not_mem_nil, or_false] at hx
  rcases hx with rfl | rfl <;> exact small_ok _ (by decide)
set_option maxHeartbeats 1600000 in
set_option maxRecDepth 100000 in
theorem isMail_yes (w : World) (hM : MaxAt w) :
    Calls Tryz.prog 130 #[.string ⟨#[97, 64, 98, 46, 100, 101]⟩] w fun e w' => e = .returned (.bool true) ∧ Below w.heap.size w w' := by
  have HMX := Lib.hid hM
  obtain ⟨m, hm⟩ := hM
  have hcut := Tryz.strings_Cut mailB ⟨#[64]⟩ m w (by decide) hm
  rw [cut_mail] at hcut
  have HC := Lib.hid hcut
  clear hcut hm
  go_enter Tryz.func130, Tryz.ntmps130
  go_wp2_with fail
  refine HC.out.mono ?_
  rintro e w2 ⟨rfl, q, hw⟩
  have HB : Hid (Below w.heap.size w w2) := by show Below _ _ _; rw [hw]; exact below_drewN (Below.refl _ _) q
  have HA := Lib.hid (all_smallL [97] ⟨#[46, 45, 95, 43]⟩ 40 w2 (small_ok _ (by decide)) (by omega) (by omega))
  have HD := Lib.hid (dom_yes w2 (HMX.out.below HB.out))
  clear hw HC
  go_wp2_with fail
  refine HA.out.mono ?_
  rintro e w3 ⟨rfl, rfl⟩
  go_wp2_with fail
  refine HD.out.mono ?_
  rintro e w4 ⟨rfl, hb4⟩
  have HB4 := Lib.hid (HB.out.trans (hb4.mono HB.out.size))
  clear hb4
  go_wp2_with fail
  go_ret
  exact ⟨rfl, HB4.out⟩
end Go.Proofs.YtmaimojpjepmjaaGreatDoor
