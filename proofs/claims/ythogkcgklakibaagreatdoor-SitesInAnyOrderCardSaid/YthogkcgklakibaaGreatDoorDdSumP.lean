
/-
  matter's dash, words and sum.
-/
import Derived.Test.YthogkcgklakibaaGreatDoorDdW
import Derived.Test.YthogkcgklakibaaGreatDoorDigestD
namespace Go.Proofs.YthogkcgklakibaaGreatDoor
open Go.RowKit
attribute [local go_sem ↓] Go.wp_at_zero Go.wp_at_succ

theorem dashM_any (s : ByteArray) (w : World) : Calls Tryz.prog 125 #[.string s] w fun e w' => e = .returned (.string (bag (dashD s))) ∧ w' = w := by
  by_cases h : byteL s = []
  · obtain ⟨q1, q2, q3⟩ := emptyD h
    have HF : Hid (bag (dashD s) = ⟨#[45]⟩) := by show _ = _; unfold dashD; rw [if_pos h]; rfl
    clear h
    go_enter Tryz.func125, Tryz.ntmps125
    go_wp2_with fail
    go_ret
    exact ⟨by rw [HF.out]; rfl, rfl⟩
  · obtain ⟨q1, q2, q3⟩ := fullD h
    have HF : Hid (bag (dashD s) = s) := by show _ = _; unfold dashD; rw [if_neg h]; exact bag_of s
    clear h
    go_enter Tryz.func125, Tryz.ntmps125
    go_wp2_with fail
    go_ret
    exact ⟨by rw [HF.out]; rfl, rfl⟩
/-- The last words of a sum. -/
def tailW (d : Deed) : List (List UInt8) := [dashD d.id, dashD d.fld, quoS (byteL d.val), decD d.from_, decD d.to_, dashD d.osite, decD d.ono]
def WordsPost (w : World) (d : Deed) (e : Ending) (w' : World) : Prop := ∃ g, e = .returned (.slice (some ⟨g, 0, none⟩) 7 7) ∧ StrsAt w' (some ⟨g, 0, none⟩) 7 7 (tailW d) ∧ Below w.heap.size w w'
set_option maxHeartbeats 3200000 in
set_option maxRecDepth 100000 in
theorem words_any (d : Deed) (w : World) (hd : SmallD d) (hP : PowAt w) : Calls Tryz.prog 87 #[d.v] w (WordsPost w d) := by
  have hb1 : Below w.heap.size w (w.alloc (.cells #[.string d.site, .int .i64 d.no, .int .i64 d.at_, .int .i64 d.kind, .string d.id, .string d.fld, .string d.val, .int .i64 d.from_, .int .i64 d.to_, .string d.osite, .int .i64 d.ono, .string d.sum] 40)) := (Below.refl _ _).alloc (Nat.le_refl _) _
  have HD1 : Hid (DeedAt (w.alloc (.cells #[.string d.site, .int .i64 d.no, .int .i64 d.at_, .int .i64 d.kind, .string d.id, .string d.fld, .string d.val, .int .i64 d.from_, .int .i64 d.to_, .string d.osite, .int .i64 d.ono, .string d.sum] 40)) w.heap.size d) := deed_new w d
  have HB1 := Lib.hid hb1
  have HPW : Hid (∀ wx, Below w.heap.size w wx → PowAt wx) := fun wx hx => hP.below hx
  have HSM := Lib.hid hd
  clear hb1 hP hd
  unfold Deed.v
  go_enter Tryz.func87, Tryz.ntmps87
  go_upto_region 1 with (fail)
  obtain ⟨P, hP⟩ : ∃ P, P = w.heap.size := ⟨_, rfl⟩
  rw [← hP] at HD1 ⊢
  generalize w.alloc (.cells #[.string d.site, .int .i64 d.no, .int .i64 d.at_, .int .i64 d.kind, .string d.id, .string d.fld, .string d.val, .int .i64 d.from_, .int .i64 d.to_, .string d.osite, .int .i64 d.ono, .string d.sum] 40) = w1 at *
  clear hP
  have HW0 : Hid (∀ wx, Below w1.heap.size w1 wx → Below w.heap.size w wx) := fun wx hx => HB1.out.trans (hx.mono HB1.out.size)
  have HHELD : Hid (∀ w', Below w1.heap.size w1 w' → w'.cell? ⟨P, 4, none⟩ = some (.string d.id) ∧ w'.cell? ⟨P, 5, none⟩ = some (.string d.fld) ∧ w'.cell? ⟨P, 6, none⟩ = some (.string d.val) ∧ w'.cell? ⟨P, 7, none⟩ = some (.int .i64 d.from_) ∧ w'.cell? ⟨P, 8, none⟩ = some (.int .i64 d.to_) ∧ w'.cell? ⟨P, 9, none⟩ = some (.string d.osite) ∧ w'.cell? ⟨P, 10, none⟩ = some (.int .i64 d.ono) ∧ Below w1.heap.size w1 w') := fun w' hb => by
    obtain ⟨a0, a1, a2, a3, a4, a5, a6, a7, a8, a9, a10, a11⟩ := (HD1.out.keep hb).c
    exact ⟨a4, a5, a6, a7, a8, a9, a10, hb⟩
  have HIT : Hid (∀ z : Int, 0 ≤ z ∧ z ≤ 100000000 → ∀ wx, Below w1.heap.size w1 wx → Calls Tryz.prog 84 #[.int .i64 z] wx fun e w' => e = .returned (.string (bag (decD z))) ∧ Below w1.heap.size w1 w') := fun z hz wx hx => by
    have h := itoa_any z.toNat wx (by omega) (HPW.out wx (HW0.out wx hx))
    rw [show ((z.toNat : Nat) : Int) = z by omega] at h
    exact h.mono fun e w' k => ⟨k.1, hx.trans (k.2.mono hx.size)⟩
  have HQT : Hid (∀ wx, Below w1.heap.size w1 wx → Calls Tryz.prog 126 #[.string d.val] wx fun e w' => e = .returned (.string (bag (quoS (byteL d.val)))) ∧ Below w1.heap.size w1 w') := fun wx hx =>
    (quote_any d.val wx (by have := HSM.out.val; omega)).mono fun e w' k => ⟨k.1, hx.trans (k.2.mono hx.size)⟩
  have HFIN : Hid (∀ wx, Below w1.heap.size w1 wx → StrsAt (wx.alloc (.cells #[.string (bag (dashD d.id)), .string (bag (dashD d.fld)), .string (bag (quoS (byteL d.val))), .string (bag (decD d.from_)), .string (bag (decD d.to_)), .string (bag (dashD d.osite)), .string (bag (decD d.ono))] 9)) (some ⟨wx.heap.size, 0, none⟩) 7 7 (tailW d) ∧ Below w.heap.size w (wx.alloc (.cells #[.string (bag (dashD d.id)), .string (bag (dashD d.fld)), .string (bag (quoS (byteL d.val))), .string (bag (decD d.from_)), .string (bag (decD d.to_)), .string (bag (dashD d.osite)), .string (bag (decD d.ono))] 9))) := fun wx hx => by
    have hz : Below wx.heap.size wx (wx.alloc (.cells #[.string (bag (dashD d.id)), .string (bag (dashD d.fld)), .string (bag (quoS (byteL d.val))), .string (bag (decD d.from_)), .string (bag (decD d.to_)), .string (bag (dashD d.osite)), .string (bag (decD d.ono))] 9)) := (Below.refl _ _).alloc (Nat.le_refl _) _
    exact ⟨alloc_strs wx (tailW d) 9, HW0.out _ (hx.trans (hz.mono hx.size))⟩
  clear HPW
  obtain ⟨a4, a5, a6, a7, a8, a9, a10, -⟩ := HHELD.out w1 (Below.refl _ _)
  go_region_held3 (fun w' => w'.cell? ⟨P, 4, none⟩ = some (.string d.id) ∧ w'.cell? ⟨P, 5, none⟩ = some (.string d.fld) ∧ w'.cell? ⟨P, 6, none⟩ = some (.string d.val) ∧ w'.cell? ⟨P, 7, none⟩ = some (.int .i64 d.from_) ∧ w'.cell? ⟨P, 8, none⟩ = some (.int .i64 d.to_) ∧ w'.cell? ⟨P, 9, none⟩ = some (.string d.osite) ∧ w'.cell? ⟨P, 10, none⟩ = some (.int .i64 d.ono) ∧ Below w1.heap.size w1 w')
    (first | assumption | exact HHELD.out _ ((Below.refl _ _).drew) | exact HHELD.out _ hbx | exact HHELD.out _ (Below.refl _ _) | exact HHELD.out _ (hbx.alloc hbx.size _))
    (first
      | (go_at_call 84; (with_reducible refine Calls.mono (HIT.out _ ?_ _ ?_) ?_); (first | exact HSM.out.from_ | exact HSM.out.to_ | exact HSM.out.ono); (first | exact (Below.refl _ _).drew | exact hbx); rintro e wx ⟨rfl, hbx⟩)
      | (go_at_call 125; (with_reducible refine Calls.mono (dashM_any _ _) ?_); rintro e wz ⟨rfl, hwz⟩; obtain rfl := hwz.symm)
      | (go_at_call 126; (with_reducible refine Calls.mono (HQT.out _ ?_) ?_); (first | exact hbx | exact (Below.refl _ _).drew | exact Below.refl _ _); rintro e wx ⟨rfl, hbx⟩))
  all_goals
    go_wp2_with fail
    go_ret
    exact ⟨_, rfl, HFIN.out _ hbx⟩
def headW (before : ByteArray) (d : Deed) : List (List UInt8) := [byteL before, byteL d.site, decD d.no, decD d.at_, decD d.kind]
theorem headW_lit (before : ByteArray) (d : Deed) (w : World) : Owns StrE (w.alloc (.cells #[.string before, .string d.site, .string (bag (decD d.no)), .string (bag (decD d.at_)), .string (bag (decD d.kind))] 9)) w.heap.size (.slice (some ⟨w.heap.size, 0, none⟩) 5 5) (headW before d) := by
  have h := Owns.lit strE_ok w w.heap.size (headW before d) (Nat.le_refl _) (by simp [headW])
  have e : (StrE.cells (headW before d)).toArray = #[.string before, .string d.site, .string (bag (decD d.no)), .string (bag (decD d.at_)), .string (bag (decD d.kind))] := by
    show #[Value.string (bag (byteL before)), .string (bag (byteL d.site)), .string (bag (decD d.no)), .string (bag (decD d.at_)), .string (bag (decD d.kind))] = _
    rw [show bag (byteL before) = before from bag_of before, show bag (byteL d.site) = d.site from bag_of d.site]
  rw [e] at h
  exact h
set_option maxHeartbeats 3200000 in
set_option maxRecDepth 100000 in
theorem sum_any (before : ByteArray) (d : Deed) (w : World) (hd : SmallD d) (hb : before.size ≤ 1000) (hP : PowAt w) (hS : StandAt w) :
    Calls Tryz.prog 46 #[d.v, .string before] w fun e w' => e = .returned (.string (sumD before d)) ∧ Below w.heap.size w w' := by
  have hb1 : Below w.heap.size w (w.alloc (.cells #[.string d.site, .int .i64 d.no, .int .i64 d.at_, .int .i64 d.kind, .string d.id, .string d.fld, .string d.val, .int .i64 d.from_, .int .i64 d.to_, .string d.osite, .int .i64 d.ono, .string d.sum] 40)) := (Below.refl _ _).alloc (Nat.le_refl _) _
  have HD1 : Hid (DeedAt (w.alloc (.cells #[.string d.site, .int .i64 d.no, .int .i64 d.at_, .int .i64 d.kind, .string d.id, .string d.fld, .string d.val, .int .i64 d.from_, .int .i64 d.to_, .string d.osite, .int .i64 d.ono, .string d.sum] 40)) w.heap.size d) := deed_new w d
  have HB1 := Lib.hid hb1
  have HPW : Hid (∀ wx, Below w.heap.size w wx → PowAt wx) := fun wx hx => hP.below hx
  have HSW : Hid (∀ wx, Below w.heap.size w wx → StandAt wx) := fun wx hx => hS.below hx
  have HLEN := Lib.hid (words_lenD before d hd hb)
  have HSM := Lib.hid hd
  clear hb1 hP hS hd
  unfold Deed.v
  go_enter Tryz.func46, Tryz.ntmps46
  go_upto_region 1 with (fail)
  obtain ⟨P, hP⟩ : ∃ P, P = w.heap.size := ⟨_, rfl⟩
  rw [← hP] at HD1 ⊢
  generalize w.alloc (.cells #[.string d.site, .int .i64 d.no, .int .i64 d.at_, .int .i64 d.kind, .string d.id, .string d.fld, .string d.val, .int .i64 d.from_, .int .i64 d.to_, .string d.osite, .int .i64 d.ono, .string d.sum] 40) = w1 at *
  clear hP
  have HW0 : Hid (∀ wx, Below w1.heap.size w1 wx → Below w.heap.size w wx) := fun wx hx => HB1.out.trans (hx.mono HB1.out.size)
  have HHELD : Hid (∀ w', Below w1.heap.size w1 w' → w'.cell? ⟨P, 0, none⟩ = some (.string d.site) ∧ w'.cell? ⟨P, 1, none⟩ = some (.int .i64 d.no) ∧ w'.cell? ⟨P, 2, none⟩ = some (.int .i64 d.at_) ∧ w'.cell? ⟨P, 3, none⟩ = some (.int .i64 d.kind) ∧ w'.cell? ⟨P, 4, none⟩ = some (.string d.id) ∧ w'.cell? ⟨P, 5, none⟩ = some (.string d.fld) ∧ w'.cell? ⟨P, 6, none⟩ = some (.string d.val) ∧ w'.cell? ⟨P, 7, none⟩ = some (.int .i64 d.from_) ∧ w'.cell? ⟨P, 8, none⟩ = some (.int .i64 d.to_) ∧ w'.cell? ⟨P, 9, none⟩ = some (.string d.osite) ∧ w'.cell? ⟨P, 10, none⟩ = some (.int .i64 d.ono) ∧ w'.cell? ⟨P, 11, none⟩ = some (.string d.sum) ∧ Below w1.heap.size w1 w') := fun w' hb => by
    obtain ⟨a0, a1, a2, a3, a4, a5, a6, a7, a8, a9, a10, a11⟩ := (HD1.out.keep hb).c
    exact ⟨a0, a1, a2, a3, a4, a5, a6, a7, a8, a9, a10, a11, hb⟩
  have HIT : Hid (∀ z : Int, 0 ≤ z ∧ z ≤ 100000000 → ∀ wx, Below w1.heap.size w1 wx → Calls Tryz.prog 84 #[.int .i64 z] wx fun e w' => e = .returned (.string (bag (decD z))) ∧ Below w1.heap.size w1 w') := fun z hz wx hx => by
    have h := itoa_any z.toNat wx (by omega) (HPW.out wx (HW0.out wx hx))
    rw [show ((z.toNat : Nat) : Int) = z by omega] at h
    exact h.mono fun e w' k => ⟨k.1, hx.trans (k.2.mono hx.size)⟩
  have HWD : Hid (∀ wx, Below w1.heap.size w1 wx → Calls Tryz.prog 87 #[.agg #[.string d.site, .int .i64 d.no, .int .i64 d.at_, .int .i64 d.kind, .string d.id, .string d.fld, .string d.val, .int .i64 d.from_, .int .i64 d.to_, .string d.osite, .int .i64 d.ono, .string d.sum]] wx (WordsPost wx d)) := fun wx hx => words_any d wx HSM.out (HPW.out wx (HW0.out wx hx))
  have HJN : Hid (∀ A c wx, Below w1.heap.size w1 wx → StrsAt wx A 12 c (wordsD before d) → Calls Tryz.prog 86 #[.slice A 12 c, .string ⟨#[32]⟩] wx fun e w' => e = .returned (.string (bag (Lib.join (wordsD before d) [32]))) ∧ Below w1.heap.size w1 w') := fun A c wx hx hst =>
    (joinC_any _ _ _ (wordsD before d) 32 _ hst (by omega) HLEN.out).mono fun e w' k => ⟨k.1, hx.trans (k.2.mono hx.size)⟩
  have HDG : Hid (∀ wx, Below w1.heap.size w1 wx → Calls Tryz.prog 85 #[.string (bag (Lib.join (wordsD before d) [32]))] wx fun e w' => e = .returned (.string (sumD before d)) ∧ Below w1.heap.size w1 w') := fun wx hx => by
    have h := digest_any (bag (Lib.join (wordsD before d) [32])) wx (HSW.out wx (HW0.out wx hx)) (by rw [bag_size']; exact HLEN.out)
    rw [show (bag (Lib.join (wordsD before d) [32])).data.toList = Lib.join (wordsD before d) [32] by simp [bag]] at h
    exact h.mono fun e w' k => ⟨k.1, hx.trans (k.2.mono hx.size)⟩
  have HFIN : Hid (∀ wx, Below w1.heap.size w1 wx → Owns StrE (wx.alloc (.cells #[.string before, .string d.site, .string (bag (decD d.no)), .string (bag (decD d.at_)), .string (bag (decD d.kind))] 9)) w1.heap.size (.slice (some ⟨wx.heap.size, 0, none⟩) 5 5) (headW before d) ∧ Below w1.heap.size w1 (wx.alloc (.cells #[.string before, .string d.site, .string (bag (decD d.no)), .string (bag (decD d.at_)), .string (bag (decD d.kind))] 9))) := fun wx hx =>
    ⟨(headW_lit before d wx).base_ hx.size, hx.alloc hx.size _⟩
  generalize Lib.join (wordsD before d) [32] = J at *
  clear HLEN HPW HSW
  obtain ⟨a0, a1, a2, a3, a4, a5, a6, a7, a8, a9, a10, a11, -⟩ := HHELD.out w1 (Below.refl _ _)
  go_cut [5] (fun v wx => ∃ g, v = .slice (some ⟨g, 0, none⟩) 5 5 ∧ Hid (Owns StrE wx w1.heap.size (.slice (some ⟨g, 0, none⟩) 5 5) (headW before d)) ∧ Hid (Below w1.heap.size w1 wx))
  case first =>
    go_region_held3 (fun w' => w'.cell? ⟨P, 0, none⟩ = some (.string d.site) ∧ w'.cell? ⟨P, 1, none⟩ = some (.int .i64 d.no) ∧ w'.cell? ⟨P, 2, none⟩ = some (.int .i64 d.at_) ∧ w'.cell? ⟨P, 3, none⟩ = some (.int .i64 d.kind) ∧ w'.cell? ⟨P, 4, none⟩ = some (.string d.id) ∧ w'.cell? ⟨P, 5, none⟩ = some (.string d.fld) ∧ w'.cell? ⟨P, 6, none⟩ = some (.string d.val) ∧ w'.cell? ⟨P, 7, none⟩ = some (.int .i64 d.from_) ∧ w'.cell? ⟨P, 8, none⟩ = some (.int .i64 d.to_) ∧ w'.cell? ⟨P, 9, none⟩ = some (.string d.osite) ∧ w'.cell? ⟨P, 10, none⟩ = some (.int .i64 d.ono) ∧ w'.cell? ⟨P, 11, none⟩ = some (.string d.sum) ∧ Below w1.heap.size w1 w')
      (first | assumption | exact HHELD.out _ ((Below.refl _ _).drew) | exact HHELD.out _ hbx | exact HHELD.out _ (Below.refl _ _) | exact HHELD.out _ (hbx.alloc hbx.size _))
      (first
        | (go_at_call 84; (with_reducible refine Calls.mono (HIT.out _ ?_ _ ?_) ?_); (first | exact HSM.out.no | exact HSM.out.at_ | exact HSM.out.kind); (first | exact (Below.refl _ _).drew | exact hbx); rintro e wx ⟨rfl, hbx⟩))
    all_goals
      go_wp2_with fail
      go_meet
      exact ⟨_, rfl, (HFIN.out _ hbx).1, (HFIN.out _ hbx).2⟩
  case rest =>
    obtain ⟨g5, rfl, HO5, HB5⟩ := hcut
    clear a0 a1 a2 a3 a4 a5 a6 a7 a8 a9 a10 a11
    obtain ⟨a0, a1, a2, a3, a4, a5, a6, a7, a8, a9, a10, a11, -⟩ := HHELD.out wc HB5.out
    go_wp2_with fail
    refine (HWD.out wc HB5.out).mono ?_
    rintro e w3 ⟨g7, rfl, hst7, hb7⟩
    have HST7 := Lib.hid hst7
    have HB7 := Lib.hid (HB5.out.trans (hb7.mono HB5.out.size))
    have HO7 := Lib.hid (HO5.out.below_ hb7)
    clear hst7 hb7 a0 a1 a2 a3 a4 a5 a6 a7 a8 a9 a10 a11
    go_wp2_with (at_builtin; refine append_elems strE_ok rfl _ _ rfl w1.heap.size (.slice (some ⟨g5, 0, none⟩) 5 5) (headW before d) rfl HO7.out (some ⟨g7, 0, none⟩) 7 7 (tailW d) rfl HST7.out (by simp [headW, tailW]) HB7.out.size ?_; intro v6 w6 hown6 hgrow6 hv6; have hb6 := Lib.hid (HB7.out.grown hgrow6 HB7.out.size (fun i e => (HO7.out.lt i e).1)); obtain ⟨A6, c6, hv6e, -, hat6, -⟩ := hown6.at_ strE_ok; have hat7 : Hid (StrsAt w6 A6 12 c6 (wordsD before d)) := hat6; have hv7 : v6 = .slice A6 12 c6 := hv6e; clear hv6e hat6 hown6 hgrow6 hv6; subst hv7)
    refine (HJN.out _ _ _ hb6.out hat7.out).mono ?_
    rintro e w8 ⟨rfl, hb8⟩
    have HB8 := Lib.hid hb8
    clear hb8
    go_wp2_with fail
    refine (HDG.out _ HB8.out).mono ?_
    rintro e w9 ⟨rfl, hb9⟩
    have HB9 := Lib.hid (HW0.out _ hb9)
    clear hb9
    go_wp2_with fail
    go_ret
    exact ⟨rfl, HB9.out⟩
end Go.Proofs.YthogkcgklakibaaGreatDoor
