
/-
  chaseref1.deedFault: which deeds are good.
-/
import Derived.Test.YthogkcgklakibaaGreatDoorDdW
import Derived.Test.YthogkcgklakibaaGreatDoorKeyD
namespace Go.Proofs.YthogkcgklakibaaGreatDoor
open Go.RowKit
attribute [local go_sem ↓] Go.wp_at_zero Go.wp_at_succ

/-- How long the strings of a deed may be. -/
structure SizeD (d : Deed) : Prop where
  id : d.id.size ≤ 1000
  fld : d.fld.size ≤ 1000
  val : d.val.size ≤ 1000
def valuedB (k : Int) : Bool := decide (k = 1) || decide (k = 2) || decide (k = 5)
def emptyB (b : ByteArray) : Bool := decide (b.toList = [])
def spanZ (d : Deed) : Bool := decide (d.from_ = 0) && decide (d.to_ = 0)
def ofZ (d : Deed) : Bool := emptyB d.osite && decide (d.ono = 0)
/-- Whether a field is not zero that the kind does not use. -/
def unusedB (d : Deed) : Bool := (backB d.kind && !emptyB d.id) || (!decide (d.kind = 1) && !emptyB d.fld) || (!valuedB d.kind && !emptyB d.val) || (!decide (d.kind = 4) && !spanZ d) || (!backB d.kind && !ofZ d)
theorem emptyB_iff (b : ByteArray) : emptyB b = true ↔ b = zeroB := by
  unfold emptyB
  rw [decide_eq_true_iff, Lib.toList_data]
  constructor
  · intro h
    exact ByteArray.ext (Array.toList_inj.1 (by rw [h]; rfl))
  · intro h
    rw [h]; rfl
/-- Whether the value of a deed (or its span) is right. -/
def valOk (d : Deed) : Bool := if d.kind = 1 then plainB (byteL d.val) && decide (d.val.size ≤ 60) else if d.kind = 2 then keyL (byteL d.val) else if d.kind = 5 then plainB (byteL d.val) && (decide (1 ≤ d.val.size) && decide (d.val.size ≤ 200)) else if d.kind = 4 then decide (0 ≤ d.from_) && (decide (d.from_ < d.to_) && decide (d.to_ ≤ 20000)) else true
def nameOk (d : Deed) : Bool := (backB d.kind || keyL (byteL d.id)) && (!decide (d.kind = 1) || keyL (byteL d.fld))
theorem goodD_iff (d : Deed) : GoodD d ↔ momB d.at_ = true ∧ (1 ≤ d.kind ∧ d.kind ≤ 6) ∧ unusedB d = false ∧ nameOk d = true ∧ valOk d = true := by
  have e1 := emptyB_iff d.id
  have e2 := emptyB_iff d.fld
  have e3 := emptyB_iff d.val
  have e4 := emptyB_iff d.osite
  constructor
  · intro h
    have hk : d.kind = 1 ∨ d.kind = 2 ∨ d.kind = 3 ∨ d.kind = 4 ∨ d.kind = 5 ∨ d.kind = 6 := by have := h.kind; omega
    have h1 := h.id
    have h2 := h.fld
    have h3 := h.val
    have h4 := h.span
    have h5 := h.of_
    refine ⟨decide_eq_true h.at_, h.kind, ?_, ?_, ?_⟩
    all_goals rcases hk with hk | hk | hk | hk | hk | hk <;> simp_all [unusedB, nameOk, valOk, backB, valuedB, spanZ, ofZ]
  · rintro ⟨h0, hk, h1, h2, h3⟩
    have hkk : d.kind = 1 ∨ d.kind = 2 ∨ d.kind = 3 ∨ d.kind = 4 ∨ d.kind = 5 ∨ d.kind = 6 := by omega
    refine ⟨of_decide_eq_true h0, hk, ?_, ?_, ?_, ?_, ?_⟩
    all_goals rcases hkk with hk | hk | hk | hk | hk | hk <;> simp_all [unusedB, nameOk, valOk, backB, valuedB, spanZ, ofZ]
theorem gd_bad {D : Deed} (h : GoodD D ↔ unusedB D = false ∧ nameOk D = true ∧ valOk D = true) (hu : unusedB D = true) : (3 : Int) = 0 ↔ GoodD D := by
  rw [h, hu]; simp
theorem gd_good {D : Deed} (h : GoodD D ↔ unusedB D = false ∧ nameOk D = true ∧ valOk D = true) (hu : unusedB D = false) : GoodD D ↔ (nameOk D && valOk D) = true := by
  rw [h, hu]; simp
theorem gd_zero {D : Deed} (h : GoodD D ↔ (nameOk D && valOk D) = true) (hv : (nameOk D && valOk D) = true) : GoodD D := h.2 hv
theorem gd_err {D : Deed} (f : Int) (hf : f ≠ 0) (h : GoodD D ↔ (nameOk D && valOk D) = true) (hv : (nameOk D && valOk D) = false) : f = 0 ↔ GoodD D := by
  rw [h, hv]; simp [hf]
set_option maxHeartbeats 6400000 in
set_option maxRecDepth 100000 in
theorem deedFault_any (d : Deed) (w : World) (hd : SizeD d) (hT : Tabs w) (hM : MaxAt w) :
    Calls Tryz.prog 69 #[d.v] w fun e w' => (∃ f : Int, e = .returned (.int .i64 f) ∧ (f = 0 ↔ GoodD d)) ∧ Below w.heap.size w w' := by
  have hb1 : Below w.heap.size w (w.alloc (.cells #[.string d.site, .int .i64 d.no, .int .i64 d.at_, .int .i64 d.kind, .string d.id, .string d.fld, .string d.val, .int .i64 d.from_, .int .i64 d.to_, .string d.osite, .int .i64 d.ono, .string d.sum] 40)) := (Below.refl _ _).alloc (Nat.le_refl _) _
  have HD1 : Hid (DeedAt (w.alloc (.cells #[.string d.site, .int .i64 d.no, .int .i64 d.at_, .int .i64 d.kind, .string d.id, .string d.fld, .string d.val, .int .i64 d.from_, .int .i64 d.to_, .string d.osite, .int .i64 d.ono, .string d.sum] 40)) w.heap.size d) := deed_new w d
  have HB1 := Lib.hid hb1
  have HTM : Hid (∀ wx, Below w.heap.size w wx → Tabs wx ∧ MaxAt wx) := fun wx hx => ⟨Tabs.below hT hx, MaxAt.below hM hx⟩
  obtain ⟨site, no, at_, kind, id, fld, val, from_, to_, osite, ono, sum⟩ := d
  have HG := Lib.hid (goodD_iff ⟨site, no, at_, kind, id, fld, val, from_, to_, osite, ono, sum⟩)
  have hsi := hd.id
  have hsf := hd.fld
  have hsv := hd.val
  clear hb1 hT hM hd
  unfold Deed.v
  simp only at hsi hsf hsv ⊢
  go_enter Tryz.func69, Tryz.ntmps69
  go_upto_region 1 with (fail)
  obtain ⟨P, hP⟩ : ∃ P, P = w.heap.size := ⟨_, rfl⟩
  rw [← hP] at HD1 ⊢
  generalize w.alloc (.cells #[.string site, .int .i64 no, .int .i64 at_, .int .i64 kind, .string id, .string fld, .string val, .int .i64 from_, .int .i64 to_, .string osite, .int .i64 ono, .string sum] 40) = w1 at *
  clear hP
  have HW0 : Hid (∀ wx, Below w1.heap.size w1 wx → Below w.heap.size w wx) := fun wx hx => HB1.out.trans (hx.mono HB1.out.size)
  have HKK0 : Hid (∀ s : ByteArray, s.size ≤ 1000 → ∀ wx, Below w1.heap.size w1 wx → Calls Tryz.prog 110 #[.string s] wx fun e w' => e = .returned (.bool (keyL (byteL s))) ∧ Below w1.heap.size w1 w') := fun s hs wx hx => (keyOf_any s wx (by omega)).mono fun e w' h => ⟨h.1, hx.trans (h.2.mono hx.size)⟩
  have HKID := Lib.hid (HKK0.out id hsi)
  have HKFL := Lib.hid (HKK0.out fld hsf)
  have HKVL := Lib.hid (HKK0.out val hsv)
  have HPL : Hid (∀ wx, Below w1.heap.size w1 wx → Calls Tryz.prog 112 #[.string val] wx fun e w' => e = .returned (.bool (plainB (byteL val))) ∧ Below w1.heap.size w1 w') := fun wx hx =>
    (plainOf_any val wx (by omega) (HTM.out wx (HW0.out wx hx)).1 (HTM.out wx (HW0.out wx hx)).2).mono fun e w' h => ⟨h.1, hx.trans (h.2.mono hx.size)⟩
  clear HKK0 HTM
  obtain ⟨a0, a1, a2, a3, a4, a5, a6, a7, a8, a9, a10, a11⟩ := HD1.out.c
  have HMO := Lib.hid (moment1_any at_)
  cases hm : momB at_ with
  | false =>
    have HF : Hid ((1 : Int) = 0 ↔ GoodD ⟨site, no, at_, kind, id, fld, val, from_, to_, osite, ono, sum⟩) := by show _ ↔ _; rw [HG.out, hm]; simp
    go_wp2_with (go_at_call 111; refine (HMO.out _).mono ?_; rintro e w2 ⟨rfl, hw⟩; obtain rfl := hw.symm; rw [hm])
    go_ret
    exact ⟨⟨1, rfl, HF.out⟩, HB1.out⟩
  | true =>
    go_upto_region 3 with (go_at_call 111; refine (HMO.out _).mono ?_; rintro e w2 ⟨rfl, hw⟩; obtain rfl := hw.symm; rw [hm])
    by_cases hlo : kind < 1
    · have HF : Hid ((4 : Int) = 0 ↔ GoodD ⟨site, no, at_, kind, id, fld, val, from_, to_, osite, ono, sum⟩) := by
        show _ ↔ _
        rw [HG.out]
        exact ⟨fun e => by omega, fun e => by have := e.2.1; omega⟩
      go_wp2_with fail
      go_ret
      exact ⟨⟨4, rfl, HF.out⟩, HB1.out⟩
    by_cases hhi : 6 < kind
    · have HF : Hid ((4 : Int) = 0 ↔ GoodD ⟨site, no, at_, kind, id, fld, val, from_, to_, osite, ono, sum⟩) := by
        show _ ↔ _
        rw [HG.out]
        exact ⟨fun e => by omega, fun e => by have := e.2.1; omega⟩
      go_wp2_with fail
      go_ret
      exact ⟨⟨4, rfl, HF.out⟩, HB1.out⟩
    go_upto_region 5 with (fail)
    have HKK : Hid (kind = 1 ∨ kind = 2 ∨ kind = 3 ∨ kind = 4 ∨ kind = 5 ∨ kind = 6) := by show _ ∨ _; omega
    have HG2 : Hid (GoodD ⟨site, no, at_, kind, id, fld, val, from_, to_, osite, ono, sum⟩ ↔ unusedB ⟨site, no, at_, kind, id, fld, val, from_, to_, osite, ono, sum⟩ = false ∧ nameOk ⟨site, no, at_, kind, id, fld, val, from_, to_, osite, ono, sum⟩ = true ∧ valOk ⟨site, no, at_, kind, id, fld, val, from_, to_, osite, ono, sum⟩ = true) := by
      show _ ↔ _
      rw [HG.out, hm]
      exact ⟨fun h => h.2.2, fun h => ⟨rfl, ⟨by omega, by omega⟩, h⟩⟩
    clear hlo hhi hm HMO HG
    rcases HKK.out with rfl | rfl | rfl | rfl | rfl | rfl
    · by_cases z1 : from_ = 0
      · subst z1
        by_cases z2 : to_ = 0
        · subst z2
          by_cases z3 : byteL osite = []
          · obtain ⟨p3, p3b, p3c⟩ := emptyD z3
            by_cases z4 : ono = 0
            · subst z4
              have HG3 := Lib.hid (gd_good HG2.out (by simp [unusedB, backB, valuedB, spanZ, ofZ, emptyB, p3]))
              clear HG2
              go_upto_region 10 with (fail)
              cases h1 : keyL (byteL id) with
              | false =>
                rw [h1] at HKID
                have HF := Lib.hid (gd_err 5 (by decide) HG3.out (by simp [nameOk, valOk, backB, h1] <;> omega))
                clear HG3
                go_wp2_with (first | (go_at_call 110; (with_reducible refine Calls.mono (HKID.out _ ?_) ?_); (first | exact hbx | exact Below.refl _ _); rintro e wx ⟨rfl, hbx⟩; obtain ⟨a0, a1, a2, a3, a4, a5, a6, a7, a8, a9, a10, a11⟩ := (HD1.out.keep hbx).c) | (go_at_call 110; (with_reducible refine Calls.mono (HKFL.out _ ?_) ?_); (first | exact hbx | exact Below.refl _ _); rintro e wx ⟨rfl, hbx⟩; obtain ⟨a0, a1, a2, a3, a4, a5, a6, a7, a8, a9, a10, a11⟩ := (HD1.out.keep hbx).c) | (go_at_call 110; (with_reducible refine Calls.mono (HKVL.out _ ?_) ?_); (first | exact hbx | exact Below.refl _ _); rintro e wx ⟨rfl, hbx⟩; obtain ⟨a0, a1, a2, a3, a4, a5, a6, a7, a8, a9, a10, a11⟩ := (HD1.out.keep hbx).c) | (go_at_call 112; (with_reducible refine Calls.mono (HPL.out _ ?_) ?_); (first | exact hbx | exact Below.refl _ _); rintro e wx ⟨rfl, hbx⟩; obtain ⟨a0, a1, a2, a3, a4, a5, a6, a7, a8, a9, a10, a11⟩ := (HD1.out.keep hbx).c))
                go_ret
                first
                  | exact ⟨⟨5, rfl, HF.out⟩, HW0.out _ hbx⟩
                  | exact ⟨⟨5, rfl, HF.out⟩, HB1.out⟩
              | true =>
                rw [h1] at HKID
                cases h2 : keyL (byteL fld) with
                | false =>
                  rw [h2] at HKFL
                  have HF := Lib.hid (gd_err 5 (by decide) HG3.out (by simp [nameOk, valOk, backB, h1, h2] <;> omega))
                  clear HG3
                  go_wp2_with (first | (go_at_call 110; (with_reducible refine Calls.mono (HKID.out _ ?_) ?_); (first | exact hbx | exact Below.refl _ _); rintro e wx ⟨rfl, hbx⟩; obtain ⟨a0, a1, a2, a3, a4, a5, a6, a7, a8, a9, a10, a11⟩ := (HD1.out.keep hbx).c) | (go_at_call 110; (with_reducible refine Calls.mono (HKFL.out _ ?_) ?_); (first | exact hbx | exact Below.refl _ _); rintro e wx ⟨rfl, hbx⟩; obtain ⟨a0, a1, a2, a3, a4, a5, a6, a7, a8, a9, a10, a11⟩ := (HD1.out.keep hbx).c) | (go_at_call 110; (with_reducible refine Calls.mono (HKVL.out _ ?_) ?_); (first | exact hbx | exact Below.refl _ _); rintro e wx ⟨rfl, hbx⟩; obtain ⟨a0, a1, a2, a3, a4, a5, a6, a7, a8, a9, a10, a11⟩ := (HD1.out.keep hbx).c) | (go_at_call 112; (with_reducible refine Calls.mono (HPL.out _ ?_) ?_); (first | exact hbx | exact Below.refl _ _); rintro e wx ⟨rfl, hbx⟩; obtain ⟨a0, a1, a2, a3, a4, a5, a6, a7, a8, a9, a10, a11⟩ := (HD1.out.keep hbx).c))
                  go_ret
                  first
                    | exact ⟨⟨5, rfl, HF.out⟩, HW0.out _ hbx⟩
                    | exact ⟨⟨5, rfl, HF.out⟩, HB1.out⟩
                | true =>
                  rw [h2] at HKFL
                  cases h3 : plainB (byteL val) with
                  | false =>
                    rw [h3] at HPL
                    have HF := Lib.hid (gd_err 3 (by decide) HG3.out (by simp [nameOk, valOk, backB, h1, h2, h3] <;> omega))
                    clear HG3
                    go_wp2_with (first | (go_at_call 110; (with_reducible refine Calls.mono (HKID.out _ ?_) ?_); (first | exact hbx | exact Below.refl _ _); rintro e wx ⟨rfl, hbx⟩; obtain ⟨a0, a1, a2, a3, a4, a5, a6, a7, a8, a9, a10, a11⟩ := (HD1.out.keep hbx).c) | (go_at_call 110; (with_reducible refine Calls.mono (HKFL.out _ ?_) ?_); (first | exact hbx | exact Below.refl _ _); rintro e wx ⟨rfl, hbx⟩; obtain ⟨a0, a1, a2, a3, a4, a5, a6, a7, a8, a9, a10, a11⟩ := (HD1.out.keep hbx).c) | (go_at_call 110; (with_reducible refine Calls.mono (HKVL.out _ ?_) ?_); (first | exact hbx | exact Below.refl _ _); rintro e wx ⟨rfl, hbx⟩; obtain ⟨a0, a1, a2, a3, a4, a5, a6, a7, a8, a9, a10, a11⟩ := (HD1.out.keep hbx).c) | (go_at_call 112; (with_reducible refine Calls.mono (HPL.out _ ?_) ?_); (first | exact hbx | exact Below.refl _ _); rintro e wx ⟨rfl, hbx⟩; obtain ⟨a0, a1, a2, a3, a4, a5, a6, a7, a8, a9, a10, a11⟩ := (HD1.out.keep hbx).c))
                    go_ret
                    first
                      | exact ⟨⟨3, rfl, HF.out⟩, HW0.out _ hbx⟩
                      | exact ⟨⟨3, rfl, HF.out⟩, HB1.out⟩
                  | true =>
                    rw [h3] at HPL
                    by_cases h4 : 60 < val.size
                    · have h4i : (60 : Int) < (val.size : Int) := by omega
                      have HF := Lib.hid (gd_err 3 (by decide) HG3.out (by simp [nameOk, valOk, backB, h1, h2, h3, h4] <;> omega))
                      clear HG3
                      go_wp2_with (first | (go_at_call 110; (with_reducible refine Calls.mono (HKID.out _ ?_) ?_); (first | exact hbx | exact Below.refl _ _); rintro e wx ⟨rfl, hbx⟩; obtain ⟨a0, a1, a2, a3, a4, a5, a6, a7, a8, a9, a10, a11⟩ := (HD1.out.keep hbx).c) | (go_at_call 110; (with_reducible refine Calls.mono (HKFL.out _ ?_) ?_); (first | exact hbx | exact Below.refl _ _); rintro e wx ⟨rfl, hbx⟩; obtain ⟨a0, a1, a2, a3, a4, a5, a6, a7, a8, a9, a10, a11⟩ := (HD1.out.keep hbx).c) | (go_at_call 110; (with_reducible refine Calls.mono (HKVL.out _ ?_) ?_); (first | exact hbx | exact Below.refl _ _); rintro e wx ⟨rfl, hbx⟩; obtain ⟨a0, a1, a2, a3, a4, a5, a6, a7, a8, a9, a10, a11⟩ := (HD1.out.keep hbx).c) | (go_at_call 112; (with_reducible refine Calls.mono (HPL.out _ ?_) ?_); (first | exact hbx | exact Below.refl _ _); rintro e wx ⟨rfl, hbx⟩; obtain ⟨a0, a1, a2, a3, a4, a5, a6, a7, a8, a9, a10, a11⟩ := (HD1.out.keep hbx).c))
                      go_ret
                      first
                        | exact ⟨⟨3, rfl, HF.out⟩, HW0.out _ hbx⟩
                        | exact ⟨⟨3, rfl, HF.out⟩, HB1.out⟩
                    · have h4i : ¬ (60 : Int) < (val.size : Int) := by omega
                      have HF := Lib.hid (gd_zero HG3.out (by simp [nameOk, valOk, backB, h1, h2, h3] <;> omega))
                      clear HG3
                      go_wp2_with (first | (go_at_call 110; (with_reducible refine Calls.mono (HKID.out _ ?_) ?_); (first | exact hbx | exact Below.refl _ _); rintro e wx ⟨rfl, hbx⟩; obtain ⟨a0, a1, a2, a3, a4, a5, a6, a7, a8, a9, a10, a11⟩ := (HD1.out.keep hbx).c) | (go_at_call 110; (with_reducible refine Calls.mono (HKFL.out _ ?_) ?_); (first | exact hbx | exact Below.refl _ _); rintro e wx ⟨rfl, hbx⟩; obtain ⟨a0, a1, a2, a3, a4, a5, a6, a7, a8, a9, a10, a11⟩ := (HD1.out.keep hbx).c) | (go_at_call 110; (with_reducible refine Calls.mono (HKVL.out _ ?_) ?_); (first | exact hbx | exact Below.refl _ _); rintro e wx ⟨rfl, hbx⟩; obtain ⟨a0, a1, a2, a3, a4, a5, a6, a7, a8, a9, a10, a11⟩ := (HD1.out.keep hbx).c) | (go_at_call 112; (with_reducible refine Calls.mono (HPL.out _ ?_) ?_); (first | exact hbx | exact Below.refl _ _); rintro e wx ⟨rfl, hbx⟩; obtain ⟨a0, a1, a2, a3, a4, a5, a6, a7, a8, a9, a10, a11⟩ := (HD1.out.keep hbx).c))
                      go_ret
                      first
                        | exact ⟨⟨0, rfl, ⟨fun _ => HF.out, fun _ => rfl⟩⟩, HW0.out _ hbx⟩
                        | exact ⟨⟨0, rfl, ⟨fun _ => HF.out, fun _ => rfl⟩⟩, HB1.out⟩
            · have z4b : (ono == 0) = false := by simpa using z4
              have HF := Lib.hid (gd_bad HG2.out (by simp [unusedB, backB, valuedB, spanZ, ofZ, emptyB, p3, z4]))
              clear HG2 HKID HKFL HKVL HPL
              go_wp2_with fail
              go_ret
              exact ⟨⟨3, rfl, HF.out⟩, HB1.out⟩
          · obtain ⟨p3, p3b, p3c⟩ := fullD z3
            have HF := Lib.hid (gd_bad HG2.out (by simp [unusedB, backB, valuedB, spanZ, ofZ, emptyB, p3]))
            clear HG2 HKID HKFL HKVL HPL
            go_wp2_with fail
            go_ret
            exact ⟨⟨3, rfl, HF.out⟩, HB1.out⟩
        · have z2b : (to_ == 0) = false := by simpa using z2
          have HF := Lib.hid (gd_bad HG2.out (by simp [unusedB, backB, valuedB, spanZ, ofZ, emptyB, z2]))
          clear HG2 HKID HKFL HKVL HPL
          go_wp2_with fail
          go_ret
          exact ⟨⟨3, rfl, HF.out⟩, HB1.out⟩
      · have z1b : (from_ == 0) = false := by simpa using z1
        have HF := Lib.hid (gd_bad HG2.out (by simp [unusedB, backB, valuedB, spanZ, ofZ, emptyB, z1]))
        clear HG2 HKID HKFL HKVL HPL
        go_wp2_with fail
        go_ret
        exact ⟨⟨3, rfl, HF.out⟩, HB1.out⟩

    · by_cases z1 : byteL fld = []
      · obtain ⟨p1, p1b, p1c⟩ := emptyD z1
        by_cases z2 : from_ = 0
        · subst z2
          by_cases z3 : to_ = 0
          · subst z3
            by_cases z4 : byteL osite = []
            · obtain ⟨p4, p4b, p4c⟩ := emptyD z4
              by_cases z5 : ono = 0
              · subst z5
                have HG3 := Lib.hid (gd_good HG2.out (by simp [unusedB, backB, valuedB, spanZ, ofZ, emptyB, p1, p4]))
                clear HG2
                go_upto_region 10 with (fail)
                cases h1 : keyL (byteL id) with
                | false =>
                  rw [h1] at HKID
                  have HF := Lib.hid (gd_err 5 (by decide) HG3.out (by simp [nameOk, valOk, backB, h1] <;> omega))
                  clear HG3
                  go_wp2_with (first | (go_at_call 110; (with_reducible refine Calls.mono (HKID.out _ ?_) ?_); (first | exact hbx | exact Below.refl _ _); rintro e wx ⟨rfl, hbx⟩; obtain ⟨a0, a1, a2, a3, a4, a5, a6, a7, a8, a9, a10, a11⟩ := (HD1.out.keep hbx).c) | (go_at_call 110; (with_reducible refine Calls.mono (HKFL.out _ ?_) ?_); (first | exact hbx | exact Below.refl _ _); rintro e wx ⟨rfl, hbx⟩; obtain ⟨a0, a1, a2, a3, a4, a5, a6, a7, a8, a9, a10, a11⟩ := (HD1.out.keep hbx).c) | (go_at_call 110; (with_reducible refine Calls.mono (HKVL.out _ ?_) ?_); (first | exact hbx | exact Below.refl _ _); rintro e wx ⟨rfl, hbx⟩; obtain ⟨a0, a1, a2, a3, a4, a5, a6, a7, a8, a9, a10, a11⟩ := (HD1.out.keep hbx).c) | (go_at_call 112; (with_reducible refine Calls.mono (HPL.out _ ?_) ?_); (first | exact hbx | exact Below.refl _ _); rintro e wx ⟨rfl, hbx⟩; obtain ⟨a0, a1, a2, a3, a4, a5, a6, a7, a8, a9, a10, a11⟩ := (HD1.out.keep hbx).c))
                  go_ret
                  first
                    | exact ⟨⟨5, rfl, HF.out⟩, HW0.out _ hbx⟩
                    | exact ⟨⟨5, rfl, HF.out⟩, HB1.out⟩
                | true =>
                  rw [h1] at HKID
                  cases h2 : keyL (byteL val) with
                  | false =>
                    rw [h2] at HKVL
                    have HF := Lib.hid (gd_err 3 (by decide) HG3.out (by simp [nameOk, valOk, backB, h1, h2] <;> omega))
                    clear HG3
                    go_wp2_with (first | (go_at_call 110; (with_reducible refine Calls.mono (HKID.out _ ?_) ?_); (first | exact hbx | exact Below.refl _ _); rintro e wx ⟨rfl, hbx⟩; obtain ⟨a0, a1, a2, a3, a4, a5, a6, a7, a8, a9, a10, a11⟩ := (HD1.out.keep hbx).c) | (go_at_call 110; (with_reducible refine Calls.mono (HKFL.out _ ?_) ?_); (first | exact hbx | exact Below.refl _ _); rintro e wx ⟨rfl, hbx⟩; obtain ⟨a0, a1, a2, a3, a4, a5, a6, a7, a8, a9, a10, a11⟩ := (HD1.out.keep hbx).c) | (go_at_call 110; (with_reducible refine Calls.mono (HKVL.out _ ?_) ?_); (first | exact hbx | exact Below.refl _ _); rintro e wx ⟨rfl, hbx⟩; obtain ⟨a0, a1, a2, a3, a4, a5, a6, a7, a8, a9, a10, a11⟩ := (HD1.out.keep hbx).c) | (go_at_call 112; (with_reducible refine Calls.mono (HPL.out _ ?_) ?_); (first | exact hbx | exact Below.refl _ _); rintro e wx ⟨rfl, hbx⟩; obtain ⟨a0, a1, a2, a3, a4, a5, a6, a7, a8, a9, a10, a11⟩ := (HD1.out.keep hbx).c))
                    go_ret
                    first
                      | exact ⟨⟨3, rfl, HF.out⟩, HW0.out _ hbx⟩
                      | exact ⟨⟨3, rfl, HF.out⟩, HB1.out⟩
                  | true =>
                    rw [h2] at HKVL
                    have HF := Lib.hid (gd_zero HG3.out (by simp [nameOk, valOk, backB, h1, h2] <;> omega))
                    clear HG3
                    go_wp2_with (first | (go_at_call 110; (with_reducible refine Calls.mono (HKID.out _ ?_) ?_); (first | exact hbx | exact Below.refl _ _); rintro e wx ⟨rfl, hbx⟩; obtain ⟨a0, a1, a2, a3, a4, a5, a6, a7, a8, a9, a10, a11⟩ := (HD1.out.keep hbx).c) | (go_at_call 110; (with_reducible refine Calls.mono (HKFL.out _ ?_) ?_); (first | exact hbx | exact Below.refl _ _); rintro e wx ⟨rfl, hbx⟩; obtain ⟨a0, a1, a2, a3, a4, a5, a6, a7, a8, a9, a10, a11⟩ := (HD1.out.keep hbx).c) | (go_at_call 110; (with_reducible refine Calls.mono (HKVL.out _ ?_) ?_); (first | exact hbx | exact Below.refl _ _); rintro e wx ⟨rfl, hbx⟩; obtain ⟨a0, a1, a2, a3, a4, a5, a6, a7, a8, a9, a10, a11⟩ := (HD1.out.keep hbx).c) | (go_at_call 112; (with_reducible refine Calls.mono (HPL.out _ ?_) ?_); (first | exact hbx | exact Below.refl _ _); rintro e wx ⟨rfl, hbx⟩; obtain ⟨a0, a1, a2, a3, a4, a5, a6, a7, a8, a9, a10, a11⟩ := (HD1.out.keep hbx).c))
                    go_ret
                    first
                      | exact ⟨⟨0, rfl, ⟨fun _ => HF.out, fun _ => rfl⟩⟩, HW0.out _ hbx⟩
                      | exact ⟨⟨0, rfl, ⟨fun _ => HF.out, fun _ => rfl⟩⟩, HB1.out⟩
              · have z5b : (ono == 0) = false := by simpa using z5
                have HF := Lib.hid (gd_bad HG2.out (by simp [unusedB, backB, valuedB, spanZ, ofZ, emptyB, p1, p4, z5]))
                clear HG2 HKID HKFL HKVL HPL
                go_wp2_with fail
                go_ret
                exact ⟨⟨3, rfl, HF.out⟩, HB1.out⟩
            · obtain ⟨p4, p4b, p4c⟩ := fullD z4
              have HF := Lib.hid (gd_bad HG2.out (by simp [unusedB, backB, valuedB, spanZ, ofZ, emptyB, p1, p4]))
              clear HG2 HKID HKFL HKVL HPL
              go_wp2_with fail
              go_ret
              exact ⟨⟨3, rfl, HF.out⟩, HB1.out⟩
          · have z3b : (to_ == 0) = false := by simpa using z3
            have HF := Lib.hid (gd_bad HG2.out (by simp [unusedB, backB, valuedB, spanZ, ofZ, emptyB, p1, z3]))
            clear HG2 HKID HKFL HKVL HPL
            go_wp2_with fail
            go_ret
            exact ⟨⟨3, rfl, HF.out⟩, HB1.out⟩
        · have z2b : (from_ == 0) = false := by simpa using z2
          have HF := Lib.hid (gd_bad HG2.out (by simp [unusedB, backB, valuedB, spanZ, ofZ, emptyB, p1, z2]))
          clear HG2 HKID HKFL HKVL HPL
          go_wp2_with fail
          go_ret
          exact ⟨⟨3, rfl, HF.out⟩, HB1.out⟩
      · obtain ⟨p1, p1b, p1c⟩ := fullD z1
        have HF := Lib.hid (gd_bad HG2.out (by simp [unusedB, backB, valuedB, spanZ, ofZ, emptyB, p1]))
        clear HG2 HKID HKFL HKVL HPL
        go_wp2_with fail
        go_ret
        exact ⟨⟨3, rfl, HF.out⟩, HB1.out⟩

    · by_cases z1 : byteL id = []
      · obtain ⟨p1, p1b, p1c⟩ := emptyD z1
        by_cases z2 : byteL fld = []
        · obtain ⟨p2, p2b, p2c⟩ := emptyD z2
          by_cases z3 : byteL val = []
          · obtain ⟨p3, p3b, p3c⟩ := emptyD z3
            by_cases z4 : from_ = 0
            · subst z4
              by_cases z5 : to_ = 0
              · subst z5
                have HG3 := Lib.hid (gd_good HG2.out (by simp [unusedB, backB, valuedB, spanZ, ofZ, emptyB, p1, p2, p3]))
                clear HG2
                go_upto_region 10 with (fail)
                have HF := Lib.hid (gd_zero HG3.out (by simp [nameOk, valOk, backB, ] <;> omega))
                clear HG3
                go_wp2_with (first | (go_at_call 110; (with_reducible refine Calls.mono (HKID.out _ ?_) ?_); (first | exact hbx | exact Below.refl _ _); rintro e wx ⟨rfl, hbx⟩; obtain ⟨a0, a1, a2, a3, a4, a5, a6, a7, a8, a9, a10, a11⟩ := (HD1.out.keep hbx).c) | (go_at_call 110; (with_reducible refine Calls.mono (HKFL.out _ ?_) ?_); (first | exact hbx | exact Below.refl _ _); rintro e wx ⟨rfl, hbx⟩; obtain ⟨a0, a1, a2, a3, a4, a5, a6, a7, a8, a9, a10, a11⟩ := (HD1.out.keep hbx).c) | (go_at_call 110; (with_reducible refine Calls.mono (HKVL.out _ ?_) ?_); (first | exact hbx | exact Below.refl _ _); rintro e wx ⟨rfl, hbx⟩; obtain ⟨a0, a1, a2, a3, a4, a5, a6, a7, a8, a9, a10, a11⟩ := (HD1.out.keep hbx).c) | (go_at_call 112; (with_reducible refine Calls.mono (HPL.out _ ?_) ?_); (first | exact hbx | exact Below.refl _ _); rintro e wx ⟨rfl, hbx⟩; obtain ⟨a0, a1, a2, a3, a4, a5, a6, a7, a8, a9, a10, a11⟩ := (HD1.out.keep hbx).c))
                go_ret
                first
                  | exact ⟨⟨0, rfl, ⟨fun _ => HF.out, fun _ => rfl⟩⟩, HW0.out _ hbx⟩
                  | exact ⟨⟨0, rfl, ⟨fun _ => HF.out, fun _ => rfl⟩⟩, HB1.out⟩
              · have z5b : (to_ == 0) = false := by simpa using z5
                have HF := Lib.hid (gd_bad HG2.out (by simp [unusedB, backB, valuedB, spanZ, ofZ, emptyB, p1, p2, p3, z5]))
                clear HG2 HKID HKFL HKVL HPL
                go_wp2_with fail
                go_ret
                exact ⟨⟨3, rfl, HF.out⟩, HB1.out⟩
            · have z4b : (from_ == 0) = false := by simpa using z4
              have HF := Lib.hid (gd_bad HG2.out (by simp [unusedB, backB, valuedB, spanZ, ofZ, emptyB, p1, p2, p3, z4]))
              clear HG2 HKID HKFL HKVL HPL
              go_wp2_with fail
              go_ret
              exact ⟨⟨3, rfl, HF.out⟩, HB1.out⟩
          · obtain ⟨p3, p3b, p3c⟩ := fullD z3
            have HF := Lib.hid (gd_bad HG2.out (by simp [unusedB, backB, valuedB, spanZ, ofZ, emptyB, p1, p2, p3]))
            clear HG2 HKID HKFL HKVL HPL
            go_wp2_with fail
            go_ret
            exact ⟨⟨3, rfl, HF.out⟩, HB1.out⟩
        · obtain ⟨p2, p2b, p2c⟩ := fullD z2
          have HF := Lib.hid (gd_bad HG2.out (by simp [unusedB, backB, valuedB, spanZ, ofZ, emptyB, p1, p2]))
          clear HG2 HKID HKFL HKVL HPL
          go_wp2_with fail
          go_ret
          exact ⟨⟨3, rfl, HF.out⟩, HB1.out⟩
      · obtain ⟨p1, p1b, p1c⟩ := fullD z1
        have HF := Lib.hid (gd_bad HG2.out (by simp [unusedB, backB, valuedB, spanZ, ofZ, emptyB, p1]))
        clear HG2 HKID HKFL HKVL HPL
        go_wp2_with fail
        go_ret
        exact ⟨⟨3, rfl, HF.out⟩, HB1.out⟩

    · by_cases z1 : byteL fld = []
      · obtain ⟨p1, p1b, p1c⟩ := emptyD z1
        by_cases z2 : byteL val = []
        · obtain ⟨p2, p2b, p2c⟩ := emptyD z2
          by_cases z3 : byteL osite = []
          · obtain ⟨p3, p3b, p3c⟩ := emptyD z3
            by_cases z4 : ono = 0
            · subst z4
              have HG3 := Lib.hid (gd_good HG2.out (by simp [unusedB, backB, valuedB, spanZ, ofZ, emptyB, p1, p2, p3]))
              clear HG2
              go_upto_region 10 with (fail)
              cases h1 : keyL (byteL id) with
              | false =>
                rw [h1] at HKID
                have HF := Lib.hid (gd_err 5 (by decide) HG3.out (by simp [nameOk, valOk, backB, h1] <;> omega))
                clear HG3
                go_wp2_with (first | (go_at_call 110; (with_reducible refine Calls.mono (HKID.out _ ?_) ?_); (first | exact hbx | exact Below.refl _ _); rintro e wx ⟨rfl, hbx⟩; obtain ⟨a0, a1, a2, a3, a4, a5, a6, a7, a8, a9, a10, a11⟩ := (HD1.out.keep hbx).c) | (go_at_call 110; (with_reducible refine Calls.mono (HKFL.out _ ?_) ?_); (first | exact hbx | exact Below.refl _ _); rintro e wx ⟨rfl, hbx⟩; obtain ⟨a0, a1, a2, a3, a4, a5, a6, a7, a8, a9, a10, a11⟩ := (HD1.out.keep hbx).c) | (go_at_call 110; (with_reducible refine Calls.mono (HKVL.out _ ?_) ?_); (first | exact hbx | exact Below.refl _ _); rintro e wx ⟨rfl, hbx⟩; obtain ⟨a0, a1, a2, a3, a4, a5, a6, a7, a8, a9, a10, a11⟩ := (HD1.out.keep hbx).c) | (go_at_call 112; (with_reducible refine Calls.mono (HPL.out _ ?_) ?_); (first | exact hbx | exact Below.refl _ _); rintro e wx ⟨rfl, hbx⟩; obtain ⟨a0, a1, a2, a3, a4, a5, a6, a7, a8, a9, a10, a11⟩ := (HD1.out.keep hbx).c))
                go_ret
                first
                  | exact ⟨⟨5, rfl, HF.out⟩, HW0.out _ hbx⟩
                  | exact ⟨⟨5, rfl, HF.out⟩, HB1.out⟩
              | true =>
                rw [h1] at HKID
                by_cases h2 : from_ < 0
                · have h2i : from_ < 0 := by omega
                  have HF := Lib.hid (gd_err 3 (by decide) HG3.out (by simp [nameOk, valOk, backB, h1] <;> omega))
                  clear HG3
                  go_wp2_with (first | (go_at_call 110; (with_reducible refine Calls.mono (HKID.out _ ?_) ?_); (first | exact hbx | exact Below.refl _ _); rintro e wx ⟨rfl, hbx⟩; obtain ⟨a0, a1, a2, a3, a4, a5, a6, a7, a8, a9, a10, a11⟩ := (HD1.out.keep hbx).c) | (go_at_call 110; (with_reducible refine Calls.mono (HKFL.out _ ?_) ?_); (first | exact hbx | exact Below.refl _ _); rintro e wx ⟨rfl, hbx⟩; obtain ⟨a0, a1, a2, a3, a4, a5, a6, a7, a8, a9, a10, a11⟩ := (HD1.out.keep hbx).c) | (go_at_call 110; (with_reducible refine Calls.mono (HKVL.out _ ?_) ?_); (first | exact hbx | exact Below.refl _ _); rintro e wx ⟨rfl, hbx⟩; obtain ⟨a0, a1, a2, a3, a4, a5, a6, a7, a8, a9, a10, a11⟩ := (HD1.out.keep hbx).c) | (go_at_call 112; (with_reducible refine Calls.mono (HPL.out _ ?_) ?_); (first | exact hbx | exact Below.refl _ _); rintro e wx ⟨rfl, hbx⟩; obtain ⟨a0, a1, a2, a3, a4, a5, a6, a7, a8, a9, a10, a11⟩ := (HD1.out.keep hbx).c))
                  go_ret
                  first
                    | exact ⟨⟨3, rfl, HF.out⟩, HW0.out _ hbx⟩
                    | exact ⟨⟨3, rfl, HF.out⟩, HB1.out⟩
                · have h2i : ¬ from_ < 0 := by omega
                  by_cases h3 : to_ ≤ from_
                  · have h3i : to_ ≤ from_ := by omega
                    have HF := Lib.hid (gd_err 3 (by decide) HG3.out (by simp [nameOk, valOk, backB, h1] <;> omega))
                    clear HG3
                    go_wp2_with (first | (go_at_call 110; (with_reducible refine Calls.mono (HKID.out _ ?_) ?_); (first | exact hbx | exact Below.refl _ _); rintro e wx ⟨rfl, hbx⟩; obtain ⟨a0, a1, a2, a3, a4, a5, a6, a7, a8, a9, a10, a11⟩ := (HD1.out.keep hbx).c) | (go_at_call 110; (with_reducible refine Calls.mono (HKFL.out _ ?_) ?_); (first | exact hbx | exact Below.refl _ _); rintro e wx ⟨rfl, hbx⟩; obtain ⟨a0, a1, a2, a3, a4, a5, a6, a7, a8, a9, a10, a11⟩ := (HD1.out.keep hbx).c) | (go_at_call 110; (with_reducible refine Calls.mono (HKVL.out _ ?_) ?_); (first | exact hbx | exact Below.refl _ _); rintro e wx ⟨rfl, hbx⟩; obtain ⟨a0, a1, a2, a3, a4, a5, a6, a7, a8, a9, a10, a11⟩ := (HD1.out.keep hbx).c) | (go_at_call 112; (with_reducible refine Calls.mono (HPL.out _ ?_) ?_); (first | exact hbx | exact Below.refl _ _); rintro e wx ⟨rfl, hbx⟩; obtain ⟨a0, a1, a2, a3, a4, a5, a6, a7, a8, a9, a10, a11⟩ := (HD1.out.keep hbx).c))
                    go_ret
                    first
                      | exact ⟨⟨3, rfl, HF.out⟩, HW0.out _ hbx⟩
                      | exact ⟨⟨3, rfl, HF.out⟩, HB1.out⟩
                  · have h3i : ¬ to_ ≤ from_ := by omega
                    by_cases h4 : 20000 < to_
                    · have h4i : 20000 < to_ := by omega
                      have HF := Lib.hid (gd_err 3 (by decide) HG3.out (by simp [nameOk, valOk, backB, h1, h4] <;> omega))
                      clear HG3
                      go_wp2_with (first | (go_at_call 110; (with_reducible refine Calls.mono (HKID.out _ ?_) ?_); (first | exact hbx | exact Below.refl _ _); rintro e wx ⟨rfl, hbx⟩; obtain ⟨a0, a1, a2, a3, a4, a5, a6, a7, a8, a9, a10, a11⟩ := (HD1.out.keep hbx).c) | (go_at_call 110; (with_reducible refine Calls.mono (HKFL.out _ ?_) ?_); (first | exact hbx | exact Below.refl _ _); rintro e wx ⟨rfl, hbx⟩; obtain ⟨a0, a1, a2, a3, a4, a5, a6, a7, a8, a9, a10, a11⟩ := (HD1.out.keep hbx).c) | (go_at_call 110; (with_reducible refine Calls.mono (HKVL.out _ ?_) ?_); (first | exact hbx | exact Below.refl _ _); rintro e wx ⟨rfl, hbx⟩; obtain ⟨a0, a1, a2, a3, a4, a5, a6, a7, a8, a9, a10, a11⟩ := (HD1.out.keep hbx).c) | (go_at_call 112; (with_reducible refine Calls.mono (HPL.out _ ?_) ?_); (first | exact hbx | exact Below.refl _ _); rintro e wx ⟨rfl, hbx⟩; obtain ⟨a0, a1, a2, a3, a4, a5, a6, a7, a8, a9, a10, a11⟩ := (HD1.out.keep hbx).c))
                      go_ret
                      first
                        | exact ⟨⟨3, rfl, HF.out⟩, HW0.out _ hbx⟩
                        | exact ⟨⟨3, rfl, HF.out⟩, HB1.out⟩
                    · have h4i : ¬ 20000 < to_ := by omega
                      have HF := Lib.hid (gd_zero HG3.out (by simp [nameOk, valOk, backB, h1] <;> omega))
                      clear HG3
                      go_wp2_with (first | (go_at_call 110; (with_reducible refine Calls.mono (HKID.out _ ?_) ?_); (first | exact hbx | exact Below.refl _ _); rintro e wx ⟨rfl, hbx⟩; obtain ⟨a0, a1, a2, a3, a4, a5, a6, a7, a8, a9, a10, a11⟩ := (HD1.out.keep hbx).c) | (go_at_call 110; (with_reducible refine Calls.mono (HKFL.out _ ?_) ?_); (first | exact hbx | exact Below.refl _ _); rintro e wx ⟨rfl, hbx⟩; obtain ⟨a0, a1, a2, a3, a4, a5, a6, a7, a8, a9, a10, a11⟩ := (HD1.out.keep hbx).c) | (go_at_call 110; (with_reducible refine Calls.mono (HKVL.out _ ?_) ?_); (first | exact hbx | exact Below.refl _ _); rintro e wx ⟨rfl, hbx⟩; obtain ⟨a0, a1, a2, a3, a4, a5, a6, a7, a8, a9, a10, a11⟩ := (HD1.out.keep hbx).c) | (go_at_call 112; (with_reducible refine Calls.mono (HPL.out _ ?_) ?_); (first | exact hbx | exact Below.refl _ _); rintro e wx ⟨rfl, hbx⟩; obtain ⟨a0, a1, a2, a3, a4, a5, a6, a7, a8, a9, a10, a11⟩ := (HD1.out.keep hbx).c))
                      go_ret
                      first
                        | exact ⟨⟨0, rfl, ⟨fun _ => HF.out, fun _ => rfl⟩⟩, HW0.out _ hbx⟩
                        | exact ⟨⟨0, rfl, ⟨fun _ => HF.out, fun _ => rfl⟩⟩, HB1.out⟩
            · have z4b : (ono == 0) = false := by simpa using z4
              have HF := Lib.hid (gd_bad HG2.out (by simp [unusedB, backB, valuedB, spanZ, ofZ, emptyB, p1, p2, p3, z4]))
              clear HG2 HKID HKFL HKVL HPL
              go_wp2_with fail
              go_ret
              exact ⟨⟨3, rfl, HF.out⟩, HB1.out⟩
          · obtain ⟨p3, p3b, p3c⟩ := fullD z3
            have HF := Lib.hid (gd_bad HG2.out (by simp [unusedB, backB, valuedB, spanZ, ofZ, emptyB, p1, p2, p3]))
            clear HG2 HKID HKFL HKVL HPL
            go_wp2_with fail
            go_ret
            exact ⟨⟨3, rfl, HF.out⟩, HB1.out⟩
        · obtain ⟨p2, p2b, p2c⟩ := fullD z2
          have HF := Lib.hid (gd_bad HG2.out (by simp [unusedB, backB, valuedB, spanZ, ofZ, emptyB, p1, p2]))
          clear HG2 HKID HKFL HKVL HPL
          go_wp2_with fail
          go_ret
          exact ⟨⟨3, rfl, HF.out⟩, HB1.out⟩
      · obtain ⟨p1, p1b, p1c⟩ := fullD z1
        have HF := Lib.hid (gd_bad HG2.out (by simp [unusedB, backB, valuedB, spanZ, ofZ, emptyB, p1]))
        clear HG2 HKID HKFL HKVL HPL
        go_wp2_with fail
        go_ret
        exact ⟨⟨3, rfl, HF.out⟩, HB1.out⟩

    · by_cases z1 : byteL fld = []
      · obtain ⟨p1, p1b, p1c⟩ := emptyD z1
        by_cases z2 : from_ = 0
        · subst z2
          by_cases z3 : to_ = 0
          · subst z3
            by_cases z4 : byteL osite = []
            · obtain ⟨p4, p4b, p4c⟩ := emptyD z4
              by_cases z5 : ono = 0
              · subst z5
                have HG3 := Lib.hid (gd_good HG2.out (by simp [unusedB, backB, valuedB, spanZ, ofZ, emptyB, p1, p4]))
                clear HG2
                go_upto_region 10 with (fail)
                cases h1 : keyL (byteL id) with
                | false =>
                  rw [h1] at HKID
                  have HF := Lib.hid (gd_err 5 (by decide) HG3.out (by simp [nameOk, valOk, backB, h1] <;> omega))
                  clear HG3
                  go_wp2_with (first | (go_at_call 110; (with_reducible refine Calls.mono (HKID.out _ ?_) ?_); (first | exact hbx | exact Below.refl _ _); rintro e wx ⟨rfl, hbx⟩; obtain ⟨a0, a1, a2, a3, a4, a5, a6, a7, a8, a9, a10, a11⟩ := (HD1.out.keep hbx).c) | (go_at_call 110; (with_reducible refine Calls.mono (HKFL.out _ ?_) ?_); (first | exact hbx | exact Below.refl _ _); rintro e wx ⟨rfl, hbx⟩; obtain ⟨a0, a1, a2, a3, a4, a5, a6, a7, a8, a9, a10, a11⟩ := (HD1.out.keep hbx).c) | (go_at_call 110; (with_reducible refine Calls.mono (HKVL.out _ ?_) ?_); (first | exact hbx | exact Below.refl _ _); rintro e wx ⟨rfl, hbx⟩; obtain ⟨a0, a1, a2, a3, a4, a5, a6, a7, a8, a9, a10, a11⟩ := (HD1.out.keep hbx).c) | (go_at_call 112; (with_reducible refine Calls.mono (HPL.out _ ?_) ?_); (first | exact hbx | exact Below.refl _ _); rintro e wx ⟨rfl, hbx⟩; obtain ⟨a0, a1, a2, a3, a4, a5, a6, a7, a8, a9, a10, a11⟩ := (HD1.out.keep hbx).c))
                  go_ret
                  first
                    | exact ⟨⟨5, rfl, HF.out⟩, HW0.out _ hbx⟩
                    | exact ⟨⟨5, rfl, HF.out⟩, HB1.out⟩
                | true =>
                  rw [h1] at HKID
                  cases h2 : plainB (byteL val) with
                  | false =>
                    rw [h2] at HPL
                    have HF := Lib.hid (gd_err 3 (by decide) HG3.out (by simp [nameOk, valOk, backB, h1, h2] <;> omega))
                    clear HG3
                    go_wp2_with (first | (go_at_call 110; (with_reducible refine Calls.mono (HKID.out _ ?_) ?_); (first | exact hbx | exact Below.refl _ _); rintro e wx ⟨rfl, hbx⟩; obtain ⟨a0, a1, a2, a3, a4, a5, a6, a7, a8, a9, a10, a11⟩ := (HD1.out.keep hbx).c) | (go_at_call 110; (with_reducible refine Calls.mono (HKFL.out _ ?_) ?_); (first | exact hbx | exact Below.refl _ _); rintro e wx ⟨rfl, hbx⟩; obtain ⟨a0, a1, a2, a3, a4, a5, a6, a7, a8, a9, a10, a11⟩ := (HD1.out.keep hbx).c) | (go_at_call 110; (with_reducible refine Calls.mono (HKVL.out _ ?_) ?_); (first | exact hbx | exact Below.refl _ _); rintro e wx ⟨rfl, hbx⟩; obtain ⟨a0, a1, a2, a3, a4, a5, a6, a7, a8, a9, a10, a11⟩ := (HD1.out.keep hbx).c) | (go_at_call 112; (with_reducible refine Calls.mono (HPL.out _ ?_) ?_); (first | exact hbx | exact Below.refl _ _); rintro e wx ⟨rfl, hbx⟩; obtain ⟨a0, a1, a2, a3, a4, a5, a6, a7, a8, a9, a10, a11⟩ := (HD1.out.keep hbx).c))
                    go_ret
                    first
                      | exact ⟨⟨3, rfl, HF.out⟩, HW0.out _ hbx⟩
                      | exact ⟨⟨3, rfl, HF.out⟩, HB1.out⟩
                  | true =>
                    rw [h2] at HPL
                    by_cases h3 : val.size < 1
                    · have h3i : (val.size : Int) < 1 := by omega
                      have HF := Lib.hid (gd_err 3 (by decide) HG3.out (by simp [nameOk, valOk, backB, h1, h2] <;> omega))
                      clear HG3
                      go_wp2_with (first | (go_at_call 110; (with_reducible refine Calls.mono (HKID.out _ ?_) ?_); (first | exact hbx | exact Below.refl _ _); rintro e wx ⟨rfl, hbx⟩; obtain ⟨a0, a1, a2, a3, a4, a5, a6, a7, a8, a9, a10, a11⟩ := (HD1.out.keep hbx).c) | (go_at_call 110; (with_reducible refine Calls.mono (HKFL.out _ ?_) ?_); (first | exact hbx | exact Below.refl _ _); rintro e wx ⟨rfl, hbx⟩; obtain ⟨a0, a1, a2, a3, a4, a5, a6, a7, a8, a9, a10, a11⟩ := (HD1.out.keep hbx).c) | (go_at_call 110; (with_reducible refine Calls.mono (HKVL.out _ ?_) ?_); (first | exact hbx | exact Below.refl _ _); rintro e wx ⟨rfl, hbx⟩; obtain ⟨a0, a1, a2, a3, a4, a5, a6, a7, a8, a9, a10, a11⟩ := (HD1.out.keep hbx).c) | (go_at_call 112; (with_reducible refine Calls.mono (HPL.out _ ?_) ?_); (first | exact hbx | exact Below.refl _ _); rintro e wx ⟨rfl, hbx⟩; obtain ⟨a0, a1, a2, a3, a4, a5, a6, a7, a8, a9, a10, a11⟩ := (HD1.out.keep hbx).c))
                      go_ret
                      first
                        | exact ⟨⟨3, rfl, HF.out⟩, HW0.out _ hbx⟩
                        | exact ⟨⟨3, rfl, HF.out⟩, HB1.out⟩
                    · have h3i : ¬ (val.size : Int) < 1 := by omega
                      by_cases h4 : 200 < val.size
                      · have h4i : (200 : Int) < (val.size : Int) := by omega
                        have HF := Lib.hid (gd_err 3 (by decide) HG3.out (by simp [nameOk, valOk, backB, h1, h2, h4] <;> omega))
                        clear HG3
                        go_wp2_with (first | (go_at_call 110; (with_reducible refine Calls.mono (HKID.out _ ?_) ?_); (first | exact hbx | exact Below.refl _ _); rintro e wx ⟨rfl, hbx⟩; obtain ⟨a0, a1, a2, a3, a4, a5, a6, a7, a8, a9, a10, a11⟩ := (HD1.out.keep hbx).c) | (go_at_call 110; (with_reducible refine Calls.mono (HKFL.out _ ?_) ?_); (first | exact hbx | exact Below.refl _ _); rintro e wx ⟨rfl, hbx⟩; obtain ⟨a0, a1, a2, a3, a4, a5, a6, a7, a8, a9, a10, a11⟩ := (HD1.out.keep hbx).c) | (go_at_call 110; (with_reducible refine Calls.mono (HKVL.out _ ?_) ?_); (first | exact hbx | exact Below.refl _ _); rintro e wx ⟨rfl, hbx⟩; obtain ⟨a0, a1, a2, a3, a4, a5, a6, a7, a8, a9, a10, a11⟩ := (HD1.out.keep hbx).c) | (go_at_call 112; (with_reducible refine Calls.mono (HPL.out _ ?_) ?_); (first | exact hbx | exact Below.refl _ _); rintro e wx ⟨rfl, hbx⟩; obtain ⟨a0, a1, a2, a3, a4, a5, a6, a7, a8, a9, a10, a11⟩ := (HD1.out.keep hbx).c))
                        go_ret
                        first
                          | exact ⟨⟨3, rfl, HF.out⟩, HW0.out _ hbx⟩
                          | exact ⟨⟨3, rfl, HF.out⟩, HB1.out⟩
                      · have h4i : ¬ (200 : Int) < (val.size : Int) := by omega
                        have HF := Lib.hid (gd_zero HG3.out (by simp [nameOk, valOk, backB, h1, h2] <;> omega))
                        clear HG3
                        go_wp2_with (first | (go_at_call 110; (with_reducible refine Calls.mono (HKID.out _ ?_) ?_); (first | exact hbx | exact Below.refl _ _); rintro e wx ⟨rfl, hbx⟩; obtain ⟨a0, a1, a2, a3, a4, a5, a6, a7, a8, a9, a10, a11⟩ := (HD1.out.keep hbx).c) | (go_at_call 110; (with_reducible refine Calls.mono (HKFL.out _ ?_) ?_); (first | exact hbx | exact Below.refl _ _); rintro e wx ⟨rfl, hbx⟩; obtain ⟨a0, a1, a2, a3, a4, a5, a6, a7, a8, a9, a10, a11⟩ := (HD1.out.keep hbx).c) | (go_at_call 110; (with_reducible refine Calls.mono (HKVL.out _ ?_) ?_); (first | exact hbx | exact Below.refl _ _); rintro e wx ⟨rfl, hbx⟩; obtain ⟨a0, a1, a2, a3, a4, a5, a6, a7, a8, a9, a10, a11⟩ := (HD1.out.keep hbx).c) | (go_at_call 112; (with_reducible refine Calls.mono (HPL.out _ ?_) ?_); (first | exact hbx | exact Below.refl _ _); rintro e wx ⟨rfl, hbx⟩; obtain ⟨a0, a1, a2, a3, a4, a5, a6, a7, a8, a9, a10, a11⟩ := (HD1.out.keep hbx).c))
                        go_ret
                        first
                          | exact ⟨⟨0, rfl, ⟨fun _ => HF.out, fun _ => rfl⟩⟩, HW0.out _ hbx⟩
                          | exact ⟨⟨0, rfl, ⟨fun _ => HF.out, fun _ => rfl⟩⟩, HB1.out⟩
              · have z5b : (ono == 0) = false := by simpa using z5
                have HF := Lib.hid (gd_bad HG2.out (by simp [unusedB, backB, valuedB, spanZ, ofZ, emptyB, p1, p4, z5]))
                clear HG2 HKID HKFL HKVL HPL
                go_wp2_with fail
                go_ret
                exact ⟨⟨3, rfl, HF.out⟩, HB1.out⟩
            · obtain ⟨p4, p4b, p4c⟩ := fullD z4
              have HF := Lib.hid (gd_bad HG2.out (by simp [unusedB, backB, valuedB, spanZ, ofZ, emptyB, p1, p4]))
              clear HG2 HKID HKFL HKVL HPL
              go_wp2_with fail
              go_ret
              exact ⟨⟨3, rfl, HF.out⟩, HB1.out⟩
          · have z3b : (to_ == 0) = false := by simpa using z3
            have HF := Lib.hid (gd_bad HG2.out (by simp [unusedB, backB, valuedB, spanZ, ofZ, emptyB, p1, z3]))
            clear HG2 HKID HKFL HKVL HPL
            go_wp2_with fail
            go_ret
            exact ⟨⟨3, rfl, HF.out⟩, HB1.out⟩
        · have z2b : (from_ == 0) = false := by simpa using z2
          have HF := Lib.hid (gd_bad HG2.out (by simp [unusedB, backB, valuedB, spanZ, ofZ, emptyB, p1, z2]))
          clear HG2 HKID HKFL HKVL HPL
          go_wp2_with fail
          go_ret
          exact ⟨⟨3, rfl, HF.out⟩, HB1.out⟩
      · obtain ⟨p1, p1b, p1c⟩ := fullD z1
        have HF := Lib.hid (gd_bad HG2.out (by simp [unusedB, backB, valuedB, spanZ, ofZ, emptyB, p1]))
        clear HG2 HKID HKFL HKVL HPL
        go_wp2_with fail
        go_ret
        exact ⟨⟨3, rfl, HF.out⟩, HB1.out⟩

    · by_cases z1 : byteL id = []
      · obtain ⟨p1, p1b, p1c⟩ := emptyD z1
        by_cases z2 : byteL fld = []
        · obtain ⟨p2, p2b, p2c⟩ := emptyD z2
          by_cases z3 : byteL val = []
          · obtain ⟨p3, p3b, p3c⟩ := emptyD z3
            by_cases z4 : from_ = 0
            · subst z4
              by_cases z5 : to_ = 0
              · subst z5
                have HG3 := Lib.hid (gd_good HG2.out (by simp [unusedB, backB, valuedB, spanZ, ofZ, emptyB, p1, p2, p3]))
                clear HG2
                go_upto_region 10 with (fail)
                have HF := Lib.hid (gd_zero HG3.out (by simp [nameOk, valOk, backB, ] <;> omega))
                clear HG3
                go_wp2_with (first | (go_at_call 110; (with_reducible refine Calls.mono (HKID.out _ ?_) ?_); (first | exact hbx | exact Below.refl _ _); rintro e wx ⟨rfl, hbx⟩; obtain ⟨a0, a1, a2, a3, a4, a5, a6, a7, a8, a9, a10, a11⟩ := (HD1.out.keep hbx).c) | (go_at_call 110; (with_reducible refine Calls.mono (HKFL.out _ ?_) ?_); (first | exact hbx | exact Below.refl _ _); rintro e wx ⟨rfl, hbx⟩; obtain ⟨a0, a1, a2, a3, a4, a5, a6, a7, a8, a9, a10, a11⟩ := (HD1.out.keep hbx).c) | (go_at_call 110; (with_reducible refine Calls.mono (HKVL.out _ ?_) ?_); (first | exact hbx | exact Below.refl _ _); rintro e wx ⟨rfl, hbx⟩; obtain ⟨a0, a1, a2, a3, a4, a5, a6, a7, a8, a9, a10, a11⟩ := (HD1.out.keep hbx).c) | (go_at_call 112; (with_reducible refine Calls.mono (HPL.out _ ?_) ?_); (first | exact hbx | exact Below.refl _ _); rintro e wx ⟨rfl, hbx⟩; obtain ⟨a0, a1, a2, a3, a4, a5, a6, a7, a8, a9, a10, a11⟩ := (HD1.out.keep hbx).c))
                go_ret
                first
                  | exact ⟨⟨0, rfl, ⟨fun _ => HF.out, fun _ => rfl⟩⟩, HW0.out _ hbx⟩
                  | exact ⟨⟨0, rfl, ⟨fun _ => HF.out, fun _ => rfl⟩⟩, HB1.out⟩
              · have z5b : (to_ == 0) = false := by simpa using z5
                have HF := Lib.hid (gd_bad HG2.out (by simp [unusedB, backB, valuedB, spanZ, ofZ, emptyB, p1, p2, p3, z5]))
                clear HG2 HKID HKFL HKVL HPL
                go_wp2_with fail
                go_ret
                exact ⟨⟨3, rfl, HF.out⟩, HB1.out⟩
            · have z4b : (from_ == 0) = false := by simpa using z4
              have HF := Lib.hid (gd_bad HG2.out (by simp [unusedB, backB, valuedB, spanZ, ofZ, emptyB, p1, p2, p3, z4]))
              clear HG2 HKID HKFL HKVL HPL
              go_wp2_with fail
              go_ret
              exact ⟨⟨3, rfl, HF.out⟩, HB1.out⟩
          · obtain ⟨p3, p3b, p3c⟩ := fullD z3
            have HF := Lib.hid (gd_bad HG2.out (by simp [unusedB, backB, valuedB, spanZ, ofZ, emptyB, p1, p2, p3]))
            clear HG2 HKID HKFL HKVL HPL
            go_wp2_with fail
            go_ret
            exact ⟨⟨3, rfl, HF.out⟩, HB1.out⟩
        · obtain ⟨p2, p2b, p2c⟩ := fullD z2
          have HF := Lib.hid (gd_bad HG2.out (by simp [unusedB, backB, valuedB, spanZ, ofZ, emptyB, p1, p2]))
          clear HG2 HKID HKFL HKVL HPL
          go_wp2_with fail
          go_ret
          exact ⟨⟨3, rfl, HF.out⟩, HB1.out⟩
      · obtain ⟨p1, p1b, p1c⟩ := fullD z1
        have HF := Lib.hid (gd_bad HG2.out (by simp [unusedB, backB, valuedB, spanZ, ofZ, emptyB, p1]))
        clear HG2 HKID HKFL HKVL HPL
        go_wp2_with fail
        go_ret
        exact ⟨⟨3, rfl, HF.out⟩, HB1.out⟩
end Go.Proofs.YthogkcgklakibaaGreatDoor
