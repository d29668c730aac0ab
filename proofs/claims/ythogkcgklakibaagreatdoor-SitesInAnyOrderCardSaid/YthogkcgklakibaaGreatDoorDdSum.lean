
/-
  chaseref1.SumAfter: the sum of a deed after another one's.
-/
import Derived.Test.YthogkcgklakibaaGreatDoorDdW
namespace Go.Proofs.YthogkcgklakibaaGreatDoor
open Go.RowKit
attribute [local go_sem ↓] Go.wp_at_zero Go.wp_at_succ

set_option maxHeartbeats 3200000 in
set_option maxRecDepth 100000 in
theorem sumAfter_any (before : ByteArray) (d : Deed) (w : World) (hd : SmallD d) (hb : before.size ≤ 1000) (h10 : ∀ b ∈ byteL d.val, b ≠ 10) (hP : PowAt w) :
    Calls Tryz.prog 114 #[.string before, d.v] w fun e w' => e = .returned (.string (sumD before d)) ∧ Below w.heap.size w w' := by
  have hb1 : Below w.heap.size w (w.alloc (.cells #[.string d.site, .int .i64 d.no, .int .i64 d.at_, .int .i64 d.kind, .string d.id, .string d.fld, .string d.val, .int .i64 d.from_, .int .i64 d.to_, .string d.osite, .int .i64 d.ono, .string d.sum] 40)) := (Below.refl _ _).alloc (Nat.le_refl _) _
  have HD1 : Hid (DeedAt (w.alloc (.cells #[.string d.site, .int .i64 d.no, .int .i64 d.at_, .int .i64 d.kind, .string d.id, .string d.fld, .string d.val, .int .i64 d.from_, .int .i64 d.to_, .string d.osite, .int .i64 d.ono, .string d.sum] 40)) w.heap.size d) := deed_new w d
  have HB1 := Lib.hid hb1
  have HPW : Hid (∀ wx, Below w.heap.size w wx → PowAt wx) := fun wx hx => hP.below hx
  have HLEN := Lib.hid (words_lenD before d hd hb)
  have HSM := Lib.hid hd
  have H10 := Lib.hid h10
  clear hb1 hP hd h10
  unfold Deed.v
  go_enter Tryz.func114, Tryz.ntmps114
  go_upto_region 1 with (fail)
  obtain ⟨P, hP⟩ : ∃ P, P = w.heap.size := ⟨_, rfl⟩
  rw [← hP] at HD1 ⊢
  generalize w.alloc (.cells #[.string d.site, .int .i64 d.no, .int .i64 d.at_, .int .i64 d.kind, .string d.id, .string d.fld, .string d.val, .int .i64 d.from_, .int .i64 d.to_, .string d.osite, .int .i64 d.ono, .string d.sum] 40) = w1 at *
  clear hP
  have HW0 : Hid (∀ wx, Below w1.heap.size w1 wx → Below w.heap.size w wx) := fun wx hx => HB1.out.trans (hx.mono HB1.out.size)
  have HHELD : Hid (∀ w', Below w1.heap.size w1 w' → w'.cell? ⟨P, 0, none⟩ = some (.string d.site) ∧ w'.cell? ⟨P, 1, none⟩ = some (.int .i64 d.no) ∧ w'.cell? ⟨P, 2, none⟩ = some (.int .i64 d.at_) ∧ w'.cell? ⟨P, 3, none⟩ = some (.int .i64 d.kind) ∧ w'.cell? ⟨P, 4, none⟩ = some (.string d.id) ∧ w'.cell? ⟨P, 5, none⟩ = some (.string d.fld) ∧ w'.cell? ⟨P, 6, none⟩ = some (.string d.val) ∧ w'.cell? ⟨P, 7, none⟩ = some (.int .i64 d.from_) ∧ w'.cell? ⟨P, 8, none⟩ = some (.int .i64 d.to_) ∧ w'.cell? ⟨P, 9, none⟩ = some (.string d.osite) ∧ w'.cell? ⟨P, 10, none⟩ = some (.int .i64 d.ono) ∧ w'.cell? ⟨P, 11, none⟩ = some (.string d.sum) ∧ Below w1.heap.size w1 w') := fun w' hb => by
    obtain ⟨a0, a1, a2, a3, a4, a5, a6, a7, a8, a9, a10, a11⟩ := (HD1.out.keep hb).c
    exact ⟨a0, a1, a2, a3, a4, a5, a6, a7, a8, a9, a10, a11, hb⟩
  have HIT : Hid (∀ z : Int, 0 ≤ z ∧ z ≤ 100000000 → ∀ wx, Below w1.heap.size w1 wx → Calls Tryz.prog 84 #[.int .i64 z] wx fun e w' => e = .returned (.string (bag (decD z))) ∧ Below w1.heap.size w1 w') := fun z hz wx hx => by
    have h := itoa_any z.toNat wx (by omega) (HPW.out wx (HW0.out wx hx))
    rw [show ((z.toNat : Nat) : Int) = z by omega] at h
    exact h.mono fun e w' k => ⟨k.1, hx.trans (k.2.mono hx.size)⟩
  have HQT : Hid (∀ wx, Below w1.heap.size w1 wx → Calls Tryz.prog 158 #[.string d.val] wx fun e w' => e = .returned (.string (bag (quoS (byteL d.val)))) ∧ Below w1.heap.size w1 w') := fun wx hx =>
    (quoted2_any d.val wx (by have := HSM.out.val; omega) H10.out).mono fun e w' k => ⟨k.1, hx.trans (k.2.mono hx.size)⟩
  have HJN : Hid (∀ wx, Below w1.heap.size w1 wx → Calls Tryz.prog 86 #[.slice (some ⟨wx.heap.size, 0, none⟩) 12 12, .string ⟨#[32]⟩] (wx.alloc (.cells #[.string before, .string d.site, .string (bag (decD d.no)), .string (bag (decD d.at_)), .string (bag (decD d.kind)), .string (bag (dashD d.id)), .string (bag (dashD d.fld)), .string (bag (quoS (byteL d.val))), .string (bag (decD d.from_)), .string (bag (decD d.to_)), .string (bag (dashD d.osite)), .string (bag (decD d.ono))] 9)) fun e w' => e = .returned (.string (bag (Lib.join (wordsD before d) [32]))) ∧ Below w1.heap.size w1 w') := fun wx hx => by
    have e : (wordsD before d).map (fun x => Value.string ⟨x.toArray⟩) = [Value.string before, .string d.site, .string (bag (decD d.no)), .string (bag (decD d.at_)), .string (bag (decD d.kind)), .string (bag (dashD d.id)), .string (bag (dashD d.fld)), .string (bag (quoS (byteL d.val))), .string (bag (decD d.from_)), .string (bag (decD d.to_)), .string (bag (dashD d.osite)), .string (bag (decD d.ono))] := by
      show [Value.string (bag (byteL before)), .string (bag (byteL d.site)), .string (bag (decD d.no)), .string (bag (decD d.at_)), .string (bag (decD d.kind)), .string (bag (dashD d.id)), .string (bag (dashD d.fld)), .string (bag (quoS (byteL d.val))), .string (bag (decD d.from_)), .string (bag (decD d.to_)), .string (bag (dashD d.osite)), .string (bag (decD d.ono))] = _
      rw [show bag (byteL before) = before from bag_of before, show bag (byteL d.site) = d.site from bag_of d.site]
    have hst := alloc_strs wx (wordsD before d) 9
    rw [e] at hst
    have hz : Below wx.heap.size wx (wx.alloc (.cells ([Value.string before, .string d.site, .string (bag (decD d.no)), .string (bag (decD d.at_)), .string (bag (decD d.kind)), .string (bag (dashD d.id)), .string (bag (dashD d.fld)), .string (bag (quoS (byteL d.val))), .string (bag (decD d.from_)), .string (bag (decD d.to_)), .string (bag (dashD d.osite)), .string (bag (decD d.ono))] : List Value).toArray 9)) := (Below.refl _ _).alloc (Nat.le_refl _) _
    exact (joinC_any _ _ _ (wordsD before d) 32 _ hst (by simp [wordsD]) HLEN.out).mono fun e w' k => ⟨k.1, (hx.trans (hz.mono hx.size)).trans (k.2.mono (hx.trans (hz.mono hx.size)).size)⟩
  have HDG : Hid (∀ wx, Calls Tryz.prog 156 #[.string (bag (Lib.join (wordsD before d) [32]))] wx fun e w' => e = .returned (.string (sumD before d)) ∧ w' = wx) := fun wx => by
    have h := digX_any (bag (Lib.join (wordsD before d) [32])) wx (by rw [bag_size']; exact HLEN.out)
    rw [show (bag (Lib.join (wordsD before d) [32])).data.toList = Lib.join (wordsD before d) [32] by simp [bag]] at h
    exact h
  generalize Lib.join (wordsD before d) [32] = J at *
  clear H10 HLEN HPW
  obtain ⟨a0, a1, a2, a3, a4, a5, a6, a7, a8, a9, a10, a11, -⟩ := HHELD.out w1 (Below.refl _ _)
  go_region_held3 (fun w' => w'.cell? ⟨P, 0, none⟩ = some (.string d.site) ∧ w'.cell? ⟨P, 1, none⟩ = some (.int .i64 d.no) ∧ w'.cell? ⟨P, 2, none⟩ = some (.int .i64 d.at_) ∧ w'.cell? ⟨P, 3, none⟩ = some (.int .i64 d.kind) ∧ w'.cell? ⟨P, 4, none⟩ = some (.string d.id) ∧ w'.cell? ⟨P, 5, none⟩ = some (.string d.fld) ∧ w'.cell? ⟨P, 6, none⟩ = some (.string d.val) ∧ w'.cell? ⟨P, 7, none⟩ = some (.int .i64 d.from_) ∧ w'.cell? ⟨P, 8, none⟩ = some (.int .i64 d.to_) ∧ w'.cell? ⟨P, 9, none⟩ = some (.string d.osite) ∧ w'.cell? ⟨P, 10, none⟩ = some (.int .i64 d.ono) ∧ w'.cell? ⟨P, 11, none⟩ = some (.string d.sum) ∧ Below w1.heap.size w1 w')
    (first | assumption | exact HHELD.out _ ((Below.refl _ _).drew) | exact HHELD.out _ hbx | exact HHELD.out _ (Below.refl _ _) | exact HHELD.out _ (hbx.alloc hbx.size _))
    (first
      | (go_at_call 84; (with_reducible refine Calls.mono (HIT.out _ ?_ _ ?_) ?_); (first | exact HSM.out.no | exact HSM.out.at_ | exact HSM.out.kind | exact HSM.out.from_ | exact HSM.out.to_ | exact HSM.out.ono); (first | exact (Below.refl _ _).drew | exact hbx); rintro e wx ⟨rfl, hbx⟩)
      | (go_at_call 157; (with_reducible refine Calls.mono (dash1_any _ _) ?_); rintro e wz ⟨rfl, hwz⟩; obtain rfl := hwz.symm)
      | (go_at_call 158; (with_reducible refine Calls.mono (HQT.out _ ?_) ?_); (first | exact hbx); rintro e wx ⟨rfl, hbx⟩)
      | (go_at_call 86; (with_reducible refine Calls.mono (HJN.out _ ?_) ?_); (first | exact hbx); rintro e wx ⟨rfl, hbx⟩)
      | (go_at_call 156; (with_reducible refine Calls.mono (HDG.out _) ?_); rintro e wz ⟨rfl, hwz⟩; obtain rfl := hwz.symm))
  all_goals
    go_wp2_with fail
    go_ret
    exact ⟨rfl, HW0.out _ hbx⟩
end Go.Proofs.YthogkcgklakibaaGreatDoor
