
/-
  base.Plain and CheckItem accept what is right.
-/
import Derived.Test.YtombeeeiignckaaGreatDoorRightItems
import Derived.Test.YtombeeeiignckaaGreatDoorTrimPlain
import Derived.Test.YtombeeeiignckaaGreatDoorKey
namespace Go.Proofs.YtombeeeiignckaaGreatDoor
open Go.RowKit

set_option maxHeartbeats 1600000 in
theorem plainP_ok (s : ByteArray) (w : World) (hp : plainB s.data.toList = true) (hs : s.size ≤ 1000000) (hT : Tabs w) (hM : MaxAt w) :
    Calls Tryz.prog 80 #[.string s] w (BoolPost w true) := by
  unfold plainB at hp
  simp only [Bool.and_eq_true, decide_eq_true_eq, Bool.not_eq_true'] at hp
  obtain ⟨h1, h2, h3⟩ := hp
  have hv := visible_any s false w hs hT
  rw [h1] at hv
  have HV := Lib.hid hv
  have HP := Lib.hid (fun wx => Tryz.strings_HasPrefix s ⟨#[32]⟩ wx)
  have HS := Lib.hid (fun wx => Tryz.strings_HasSuffix s ⟨#[32]⟩ wx (by omega))
  rw [show Lib.hasPrefix s.data.toList (⟨#[32]⟩ : ByteArray).data.toList = false from trimB_head h2] at HP
  rw [show Lib.hasSuffix s.data.toList (⟨#[32]⟩ : ByteArray).data.toList = false from trimB_last h2] at HS
  have HC := Lib.hid (fun wx (hb : Below w.heap.size w wx) => strContains_any s ⟨#[32, 32]⟩ wx hs (MaxAt.below hM hb))
  rw [show Lib.contains s.data.toList (⟨#[32, 32]⟩ : ByteArray).data.toList = false from h3] at HC
  clear hv hM hT h1 h2 h3
  go_enter Tryz.func80, Tryz.ntmps80
  go_wp2_with fail
  refine HV.out.mono ?_
  rintro e w2 ⟨rfl, hb2⟩
  have HB2 := Lib.hid hb2
  clear hb2
  go_wp2_with fail
  refine (HP.out w2).mono ?_
  rintro e w3 ⟨rfl, rfl⟩
  go_wp2_with fail
  refine (HS.out _).mono ?_
  rintro e w4 ⟨rfl, rfl⟩
  go_wp2_with fail
  refine (HC.out _ HB2.out).mono ?_
  rintro e w5 ⟨rfl, hb5⟩
  have HB5 := Lib.hid (below_trans' HB2.out hb5)
  clear hb5
  go_wp2_with fail
  go_ret
  exact ⟨rfl, HB5.out⟩
theorem moment_ok (z : Int) (w : World) (h : 0 ≤ z ∧ z ≤ 5761439) : Calls Tryz.prog 81 #[.int .i64 z] w fun e w' => e = .returned (.bool true) ∧ w' = w := by
  have hi := in_any z 0 5761439 w
  rw [inB_in _ _ _ h.1 h.2] at hi
  go_enter Tryz.func81, Tryz.ntmps81
  go_wp2_with fail
  refine hi.mono ?_
  rintro e w' ⟨rfl, hw⟩
  obtain rfl := hw
  go_wp2_with fail
  go_ret
  exact ⟨rfl, rfl⟩
theorem kindWord_ok (z : Int) (w : World) (h : 1 ≤ z ∧ z ≤ 4) : Calls Tryz.prog 79 #[.int .i64 z] w fun e w' => (∃ b c : UInt8, ∃ s : List UInt8, e = .returned (.string ⟨(b :: c :: s).toArray⟩)) ∧ w' = w := by
  have hz : z = 1 ∨ z = 2 ∨ z = 3 ∨ z = 4 := by omega
  rcases hz with rfl | rfl | rfl | rfl
  · go_enter Tryz.func79, Tryz.ntmps79
    go_wp2_with fail
    go_ret
    exact ⟨⟨109, 97, [105, 108], rfl⟩, rfl⟩
  · go_enter Tryz.func79, Tryz.ntmps79
    go_wp2_with fail
    go_ret
    exact ⟨⟨102, 105, [108, 101], rfl⟩, rfl⟩
  · go_enter Tryz.func79, Tryz.ntmps79
    go_wp2_with fail
    go_ret
    exact ⟨⟨98, 111, [120], rfl⟩, rfl⟩
  · go_enter Tryz.func79, Tryz.ntmps79
    go_wp2_with fail
    go_ret
    exact ⟨⟨110, 111, [116, 101], rfl⟩, rfl⟩
def OkPost (w : World) (e : Ending) (w' : World) : Prop := e = .returned (.int .i64 0) ∧ Below w.heap.size w w'
set_option maxHeartbeats 3200000 in
set_option maxRecDepth 100000 in
theorem checkItem_ok (x : Itm) (w : World) (hx : ItemOk x) (hT : Tabs w) (hM : MaxAt w) :
    Calls Tryz.prog 40 #[x.v] w (OkPost w) := by
  have hb0 : Below w.heap.size w (w.alloc (.cells #[.string x.id, .string x.cu, .int .i64 x.kind, .string x.name, .int .i64 x.at_, .string x.par, .string x.text] 42)) := (Below.refl _ _).alloc (Nat.le_refl _) _
  have HI0 : Hid (ItemAt (w.alloc (.cells #[.string x.id, .string x.cu, .int .i64 x.kind, .string x.name, .int .i64 x.at_, .string x.par, .string x.text] 42)) w.heap.size x) := item_new w x
  have HB0 := Lib.hid hb0
  have HTX := Lib.hid (hT.below hb0)
  have HMX := Lib.hid (hM.below hb0)
  have HX := Lib.hid hx
  have HSM := Lib.hid hx.small
  unfold Itm.v
  clear hb0 hT hM hx
  go_enter Tryz.func40, Tryz.ntmps40
  go_upto_region 1 with (fail)
  obtain ⟨P, hP⟩ : ∃ P, P = w.heap.size := ⟨_, rfl⟩
  rw [← hP] at HI0 ⊢
  generalize w.alloc (.cells #[.string x.id, .string x.cu, .int .i64 x.kind, .string x.name, .int .i64 x.at_, .string x.par, .string x.text] 42) = w0 at *
  clear hP
  obtain ⟨c0, c1, c2, c3, c4, c5, c6⟩ := HI0.out.c
  have K1 := Lib.hid (fun wx => key_any x.id wx HX.out.id)
  have K2 := Lib.hid (fun wx => key_any x.cu wx HX.out.cu)
  have K3 := Lib.hid (fun wx => kindWord_ok x.kind wx HX.out.kind)
  have K5 := Lib.hid (plainP_ok x.name w0 HX.out.plain HSM.out.2.2.1 HTX.out HMX.out)
  have K6 := Lib.hid (fun wx => moment_ok x.at_ wx HX.out.at_)
  have K10 := Lib.hid (fun wx (hb : Below w0.heap.size w0 wx) => text_any x.text wx HSM.out.2.2.2.2 (Tabs.below HTX.out hb))
  rw [HX.out.text] at K10
  have k4 : ¬ (120 : Int) < (x.name.size : Int) := by have := HX.out.short; omega
  have k9 : ¬ (20000 : Int) < (x.text.size : Int) := by have := HX.out.size; omega
  go_wp2_with fail
  refine (K1.out _).mono ?_
  rintro e w' ⟨rfl, hw⟩
  obtain rfl := hw
  go_wp2_with fail
  refine (K2.out _).mono ?_
  rintro e w' ⟨rfl, hw⟩
  obtain rfl := hw
  go_wp2_with fail
  refine (K3.out _).mono ?_
  rintro e w' ⟨⟨b, c, s, rfl⟩, hw⟩
  obtain rfl := hw
  go_wp2_with fail
  refine K5.out.mono ?_
  rintro e w3 ⟨rfl, hb3⟩
  have HB3 := Lib.hid hb3
  clear c0 c1 c2 c3 c4 c5 c6 hb3 K1 K2 K3 K5
  obtain ⟨c0, c1, c2, c3, c4, c5, c6⟩ := (HI0.out.keep HB3.out).c
  go_wp2_with fail
  refine (K6.out _).mono ?_
  rintro e w' ⟨rfl, hw⟩
  obtain rfl := hw
  clear K6
  have KOWN : Hid (x.par ≠ x.id) := HX.out.own
  have KP := Lib.hid HX.out.par
  have q8 : (x.par.toList == x.id.toList) = false := by rw [bytes_eq]; exact decide_eq_false KOWN.out
  rcases KP.out with hp | hp
  · obtain ⟨q1, q2, q3⟩ := par_emptyL hp
    clear hp KP
    go_upto_region 13 with (fail)
    clear q1 q2 q3
    go_wp2_with fail
    refine (K10.out _ HB3.out).mono ?_
    rintro e w9 ⟨rfl, hb9⟩
    have HB9 := Lib.hid (HB0.out.trans ((below_trans' HB3.out hb9).mono HB0.out.size))
    clear hb9
    go_wp2_with fail
    go_ret
    exact ⟨rfl, HB9.out⟩
  · have hne : ¬ x.par.data.toList = [] := fun e => by rw [e] at hp; cases hp
    obtain ⟨q1, q2, q3⟩ := par_fullL hne
    have K7 := Lib.hid (fun wx => key_any x.par wx hp)
    clear hp hne KP
    go_wp2_with fail
    refine (K7.out _).mono ?_
    rintro e w' ⟨rfl, hw⟩
    obtain rfl := hw
    go_upto_region 13 with (fail)
    clear q1 q2 q3
    go_wp2_with fail
    refine (K10.out _ HB3.out).mono ?_
    rintro e w9 ⟨rfl, hb9⟩
    have HB9 := Lib.hid (HB0.out.trans ((below_trans' HB3.out hb9).mono HB0.out.size))
    clear hb9
    go_wp2_with fail
    go_ret
    exact ⟨rfl, HB9.out⟩
end Go.Proofs.YtombeeeiignckaaGreatDoor
