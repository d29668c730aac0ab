
/-
  matter's byStamp, unused, formError, byStamps and ofError, at right deeds.
-/
import Derived.Test.YthogkcgklakibaaGreatDoorDdSort
import Derived.Test.YthogkcgklakibaaGreatDoorDdLow
import Derived.Test.YthogkcgklakibaaGreatDoorDdW

namespace Go.Proofs.YthogkcgklakibaaGreatDoor
open Go.RowKit
attribute [local go_sem ↓] Go.wp_at_zero Go.wp_at_succ

set_option maxHeartbeats 1600000 in
set_option maxRecDepth 100000 in
theorem byStamp_gr (x y : Deed) (w : World) : Calls Tryz.prog 43 #[.agg #[.string x.site, .int .i64 x.no], .agg #[.string y.site, .int .i64 y.no]] w fun e w' => e = .returned (.int .i64 (cmpD x y)) ∧ Gr w w' := by
  have HX : Hid (StB ((w.alloc (.cells #[.string x.site, .int .i64 x.no] 36)).alloc (.cells #[.string y.site, .int .i64 y.no] 36)) w.heap.size x.site x.no) := StB.keep (heap_alloc_new w _) ((Below.refl _ _).alloc (Nat.le_refl _) _)
  have HY : Hid (StB ((w.alloc (.cells #[.string x.site, .int .i64 x.no] 36)).alloc (.cells #[.string y.site, .int .i64 y.no] 36)) (w.alloc (.cells #[.string x.site, .int .i64 x.no] 36)).heap.size y.site y.no) := heap_alloc_new _ _
  have hsz : (w.alloc (.cells #[.string x.site, .int .i64 x.no] 36)).heap.size = w.heap.size + 1 := by simp
  rw [hsz] at HY
  have HG : Hid (Gr w ((w.alloc (.cells #[.string x.site, .int .i64 x.no] 36)).alloc (.cells #[.string y.site, .int .i64 y.no] 36))) := ((Gr.refl w).alloc _).alloc _
  have HCS := Lib.hid (fun wx => Tryz.strings_Compare x.site y.site wx)
  have HCI := Lib.hid (fun wx => compareI_any x.no y.no wx)
  have HOR := Lib.hid (fun (g : Nat) wx h0 h1 => cmpOr_any g (Lib.compareBytes (byteL x.site) (byteL y.site)) (cmpN x.no y.no) wx h0 h1)
  have HF : Hid ((if Lib.compareBytes (byteL x.site) (byteL y.site) = 0 then cmpN x.no y.no else Lib.compareBytes (byteL x.site) (byteL y.site)) = cmpD x y) := by
    show _ = _
    unfold cmpD
    by_cases h : Lib.compareBytes (byteL x.site) (byteL y.site) = 0
    · rw [if_pos h, if_neg (by simpa using h)]
    · rw [if_neg h, if_pos h]
  clear hsz
  rw [show x.site.data.toList = byteL x.site from rfl, show y.site.data.toList = byteL y.site from rfl] at HCS
  rw [HF.out] at HOR
  clear HF
  go_enter Tryz.func43, Tryz.ntmps43
  go_upto_region 1 with (fail)
  obtain ⟨P, hP⟩ : ∃ P, P = w.heap.size := ⟨_, rfl⟩
  rw [← hP] at HX HY ⊢
  generalize (w.alloc (.cells #[.string x.site, .int .i64 x.no] 36)).alloc (.cells #[.string y.site, .int .i64 y.no] 36) = w1 at *
  clear hP
  have HHELD : Hid (∀ w', Gr w1 w' → w'.cell? ⟨P, 0, none⟩ = some (.string x.site) ∧ w'.cell? ⟨P, 1, none⟩ = some (.int .i64 x.no) ∧ w'.cell? ⟨P + 1, 0, none⟩ = some (.string y.site) ∧ w'.cell? ⟨P + 1, 1, none⟩ = some (.int .i64 y.no) ∧ Gr w1 w') := fun w' hg => by
    obtain ⟨a0, a1⟩ := (HX.out.keep hg.below).c
    obtain ⟨b0, b1⟩ := (HY.out.keep hg.below).c
    exact ⟨a0, a1, b0, b1, hg⟩
  obtain ⟨a0, a1, b0, b1, -⟩ := HHELD.out w1 (Gr.refl _)
  generalize Lib.compareBytes (byteL x.site) (byteL y.site) = cs at *
  generalize cmpN x.no y.no = ci at *
  go_region_held3 (fun w' => w'.cell? ⟨P, 0, none⟩ = some (.string x.site) ∧ w'.cell? ⟨P, 1, none⟩ = some (.int .i64 x.no) ∧ w'.cell? ⟨P + 1, 0, none⟩ = some (.string y.site) ∧ w'.cell? ⟨P + 1, 1, none⟩ = some (.int .i64 y.no) ∧ Gr w1 w')
    (first | assumption | exact HHELD.out _ (Gr.refl _).drew | exact HHELD.out _ (Gr.refl _) | exact HHELD.out _ ((Gr.refl _).drew.alloc _) | exact HHELD.out _ ((Gr.refl _).alloc _).drew)
    (first
      | (go_at_call 80; (with_reducible refine Calls.mono (HCS.out _) ?_); rintro e wz ⟨rfl, hwz⟩; obtain rfl := hwz.symm)
      | (go_at_call 81; (with_reducible refine Calls.mono (HCI.out _) ?_); rintro e wz ⟨rfl, hwz⟩; obtain rfl := hwz.symm)
      | (go_at_call 79; (refine Calls.mono (HOR.out _ _ (show World.cell? (World.alloc _ _) _ = _ from by rw [World.cell?_alloc_at _ _ _ _ rfl]; rfl) (show World.cell? (World.alloc _ _) _ = _ from by rw [World.cell?_alloc_at _ _ _ _ rfl]; rfl)) ?_); rintro e wz ⟨rfl, hwz⟩; obtain rfl := hwz.symm))
  all_goals
    go_wp2_with fail
    go_ret
    exact ⟨rfl, by first | exact HG.out.trans ((Gr.refl _).alloc _).drew | exact HG.out.trans ((Gr.refl _).drew.alloc _)⟩

theorem cmpD_pos {x y : Deed} (h : StLt y x) : ¬ cmpD x y ≤ 0 := fun hle => by
  rcases Int.lt_or_eq_of_le hle with k | k
  · exact StLt.asym h ((cmpD_neg x y).1 k)
  · obtain ⟨k1, k2⟩ := (cmpD_zero x y).1 k
    rcases h with h | ⟨-, h⟩
    · rw [k1] at h; exact List.lt_irrefl _ h
    · omega
theorem first_2D (a b E : Int) (g : Nat) (w : World) (h : g = w.heap.size) (hE : firstE [a, b] = E) (t : TypeId) : Calls Tryz.prog 37 #[.slice (some ⟨g, 0, none⟩) 2 2] (w.alloc (.cells #[.int .i64 a, .int .i64 b] t)) fun e w' => e = .returned (.int .i64 E) ∧ w' = (w.alloc (.cells #[.int .i64 a, .int .i64 b] t)) := by
  subst h
  subst hE
  refine (first_any _ 2 2 [a, b] _ rfl (by omega) (fun j hj => ?_)).mono fun _ _ h => ⟨h.1, h.2.symm⟩
  rw [World.cell?_alloc_at _ _ _ _ rfl]
  match j, hj with
  | 0, _ => rfl
  | 1, _ => rfl
set_option maxHeartbeats 3200000 in
set_option maxRecDepth 100000 in
theorem unused_1 (site : ByteArray) (no at_ : Int) (id : ByteArray) (fld : ByteArray) (val : ByteArray) (sum : ByteArray) (w : World) : Calls Tryz.prog 82 #[.agg #[.string site, .int .i64 no, .int .i64 at_, .int .i64 1, .string id, .string fld, .string val, .int .i64 0, .int .i64 0, .string ⟨#[]⟩, .int .i64 0, .string sum]] w (BoolPost w false) := by
  have hb1 : Below w.heap.size w (w.alloc (.cells #[.string site, .int .i64 no, .int .i64 at_, .int .i64 1, .string id, .string fld, .string val, .int .i64 0, .int .i64 0, .string ⟨#[]⟩, .int .i64 0, .string sum] 40)) := (Below.refl _ _).alloc (Nat.le_refl _) _
  have HD1 : Hid (DeedAt (w.alloc (.cells #[.string site, .int .i64 no, .int .i64 at_, .int .i64 1, .string id, .string fld, .string val, .int .i64 0, .int .i64 0, .string ⟨#[]⟩, .int .i64 0, .string sum] 40)) w.heap.size ⟨site, no, at_, 1, id, fld, val, 0, 0, ⟨#[]⟩, 0, sum⟩) := heap_alloc_new w _
  have HB1 := Lib.hid hb1
  clear hb1
  go_enter Tryz.func82, Tryz.ntmps82
  go_upto_region 1 with (fail)
  obtain ⟨P, hP⟩ : ∃ P, P = w.heap.size := ⟨_, rfl⟩
  rw [← hP] at HD1 ⊢
  generalize w.alloc (.cells #[.string site, .int .i64 no, .int .i64 at_, .int .i64 1, .string id, .string fld, .string val, .int .i64 0, .int .i64 0, .string ⟨#[]⟩, .int .i64 0, .string sum] 40) = w1 at *
  clear hP
  obtain ⟨a0, a1, a2, a3, a4, a5, a6, a7, a8, a9, a10, a11⟩ := HD1.out.c
  dsimp only at a0 a1 a2 a3 a4 a5 a6 a7 a8 a9 a10 a11
  go_wp2_with fail
  go_ret
  exact ⟨rfl, HB1.out⟩
set_option maxHeartbeats 3200000 in
set_option maxRecDepth 100000 in
theorem form_1 (site : ByteArray) (no at_ : Int) (id : ByteArray) (fld : ByteArray) (val : ByteArray) (sum : ByteArray) (w : World) (hid : keyL (byteL id) = true) (hfld : keyL (byteL fld) = true) (hval : plainB (byteL val) = true ∧ val.size ≤ 60) (hT : Tabs w) (hM : MaxAt w) : Calls Tryz.prog 45 #[.agg #[.string site, .int .i64 no, .int .i64 at_, .int .i64 1, .string id, .string fld, .string val, .int .i64 0, .int .i64 0, .string ⟨#[]⟩, .int .i64 0, .string sum]] w fun e w' => e = .returned (.int .i64 0) ∧ Below w.heap.size w w' := by
  have hb1 : Below w.heap.size w (w.alloc (.cells #[.string site, .int .i64 no, .int .i64 at_, .int .i64 1, .string id, .string fld, .string val, .int .i64 0, .int .i64 0, .string ⟨#[]⟩, .int .i64 0, .string sum] 40)) := (Below.refl _ _).alloc (Nat.le_refl _) _
  have HD1 : Hid (DeedAt (w.alloc (.cells #[.string site, .int .i64 no, .int .i64 at_, .int .i64 1, .string id, .string fld, .string val, .int .i64 0, .int .i64 0, .string ⟨#[]⟩, .int .i64 0, .string sum] 40)) w.heap.size ⟨site, no, at_, 1, id, fld, val, 0, 0, ⟨#[]⟩, 0, sum⟩) := heap_alloc_new w _
  have HB1 := Lib.hid hb1
  have HT := Lib.hid (fun wx (hx : Below w.heap.size w wx) => hT.below hx)
  have HM := Lib.hid (fun wx (hx : Below w.heap.size w wx) => MaxAt.below hM hx)
  have HKI := Lib.hid (fun wx => key_any id wx hid)
  have HKF := Lib.hid (fun wx => key_any fld wx hfld)
  have HPV := Lib.hid (fun wx (hx : Below w.heap.size w wx) => plainP_ok val wx hval.1 (by omega) (HT.out wx hx) (HM.out wx hx))
  have hv60 : (val.size : Int) ≤ 60 := by omega
  clear hb1 hT hM hid hfld hval
  go_enter Tryz.func45, Tryz.ntmps45
  go_upto_region 1 with (fail)
  obtain ⟨P, hP⟩ : ∃ P, P = w.heap.size := ⟨_, rfl⟩
  rw [← hP] at HD1 ⊢
  generalize w.alloc (.cells #[.string site, .int .i64 no, .int .i64 at_, .int .i64 1, .string id, .string fld, .string val, .int .i64 0, .int .i64 0, .string ⟨#[]⟩, .int .i64 0, .string sum] 40) = w1 at *
  clear hP
  obtain ⟨a0, a1, a2, a3, a4, a5, a6, a7, a8, a9, a10, a11⟩ := HD1.out.c
  dsimp only at a0 a1 a2 a3 a4 a5 a6 a7 a8 a9 a10 a11
  go_wp2_with fail
  refine (unused_1 site no at_ id fld val sum w1).mono ?_
  rintro e w2 ⟨rfl, hb2⟩
  have HD2 := Lib.hid (HD1.out.keep hb2)
  have HB2 := Lib.hid (below_trans' HB1.out (hb2.mono (Nat.le_refl _)))
  clear hb2 HB1 HD1 a0 a1 a2 a3 a4 a5 a6 a7 a8 a9 a10 a11
  obtain ⟨a0, a1, a2, a3, a4, a5, a6, a7, a8, a9, a10, a11⟩ := HD2.out.c
  dsimp only at a0 a1 a2 a3 a4 a5 a6 a7 a8 a9 a10 a11
  go_wp2_with fail
  refine (HPV.out _ HB2.out).mono ?_
  rintro e w3 ⟨rfl, hb3⟩
  have HD3 := Lib.hid (HD2.out.keep hb3)
  have HB3 := Lib.hid (below_trans' HB2.out hb3)
  clear hb3 HB2 HD2 a0 a1 a2 a3 a4 a5 a6 a7 a8 a9 a10 a11
  obtain ⟨a0, a1, a2, a3, a4, a5, a6, a7, a8, a9, a10, a11⟩ := HD3.out.c
  dsimp only at a0 a1 a2 a3 a4 a5 a6 a7 a8 a9 a10 a11
  go_wp2_with fail
  refine (HKI.out _).mono ?_
  rintro e wz ⟨rfl, hwz⟩
  obtain rfl := hwz
  go_wp2_with fail
  refine (HKF.out _).mono ?_
  rintro e wz ⟨rfl, hwz⟩
  obtain rfl := hwz
  go_wp2_with fail
  refine (when_still _ _ _).mono ?_
  rintro e wz ⟨rfl, hwz⟩
  obtain rfl := hwz.symm
  go_wp2_with fail
  refine (when_still _ _ _).mono ?_
  rintro e wz ⟨rfl, hwz⟩
  obtain rfl := hwz.symm
  go_wp2_with fail
  refine (first_2D 0 0 0 _ _ rfl rfl _).mono ?_
  rintro e wz ⟨rfl, hwz⟩
  obtain rfl := hwz.symm
  go_wp2_with fail
  go_ret
  exact ⟨rfl, HB3.out.alloc HB3.out.size _⟩
set_option maxHeartbeats 3200000 in
set_option maxRecDepth 100000 in
theorem unused_2 (site : ByteArray) (no at_ : Int) (id : ByteArray) (val : ByteArray) (sum : ByteArray) (w : World) : Calls Tryz.prog 82 #[.agg #[.string site, .int .i64 no, .int .i64 at_, .int .i64 2, .string id, .string ⟨#[]⟩, .string val, .int .i64 0, .int .i64 0, .string ⟨#[]⟩, .int .i64 0, .string sum]] w (BoolPost w false) := by
  have hb1 : Below w.heap.size w (w.alloc (.cells #[.string site, .int .i64 no, .int .i64 at_, .int .i64 2, .string id, .string ⟨#[]⟩, .string val, .int .i64 0, .int .i64 0, .string ⟨#[]⟩, .int .i64 0, .string sum] 40)) := (Below.refl _ _).alloc (Nat.le_refl _) _
  have HD1 : Hid (DeedAt (w.alloc (.cells #[.string site, .int .i64 no, .int .i64 at_, .int .i64 2, .string id, .string ⟨#[]⟩, .string val, .int .i64 0, .int .i64 0, .string ⟨#[]⟩, .int .i64 0, .string sum] 40)) w.heap.size ⟨site, no, at_, 2, id, ⟨#[]⟩, val, 0, 0, ⟨#[]⟩, 0, sum⟩) := heap_alloc_new w _
  have HB1 := Lib.hid hb1
  clear hb1
  go_enter Tryz.func82, Tryz.ntmps82
  go_upto_region 1 with (fail)
  obtain ⟨P, hP⟩ : ∃ P, P = w.heap.size := ⟨_, rfl⟩
  rw [← hP] at HD1 ⊢
  generalize w.alloc (.cells #[.string site, .int .i64 no, .int .i64 at_, .int .i64 2, .string id, .string ⟨#[]⟩, .string val, .int .i64 0, .int .i64 0, .string ⟨#[]⟩, .int .i64 0, .string sum] 40) = w1 at *
  clear hP
  obtain ⟨a0, a1, a2, a3, a4, a5, a6, a7, a8, a9, a10, a11⟩ := HD1.out.c
  dsimp only at a0 a1 a2 a3 a4 a5 a6 a7 a8 a9 a10 a11
  go_wp2_with fail
  go_ret
  exact ⟨rfl, HB1.out⟩
set_option maxHeartbeats 3200000 in
set_option maxRecDepth 100000 in
theorem form_2 (site : ByteArray) (no at_ : Int) (id : ByteArray) (val : ByteArray) (sum : ByteArray) (w : World) (hid : keyL (byteL id) = true) (hval : keyL (byteL val) = true) (hT : Tabs w) (hM : MaxAt w) : Calls Tryz.prog 45 #[.agg #[.string site, .int .i64 no, .int .i64 at_, .int .i64 2, .string id, .string ⟨#[]⟩, .string val, .int .i64 0, .int .i64 0, .string ⟨#[]⟩, .int .i64 0, .string sum]] w fun e w' => e = .returned (.int .i64 0) ∧ Below w.heap.size w w' := by
  have hb1 : Below w.heap.size w (w.alloc (.cells #[.string site, .int .i64 no, .int .i64 at_, .int .i64 2, .string id, .string ⟨#[]⟩, .string val, .int .i64 0, .int .i64 0, .string ⟨#[]⟩, .int .i64 0, .string sum] 40)) := (Below.refl _ _).alloc (Nat.le_refl _) _
  have HD1 : Hid (DeedAt (w.alloc (.cells #[.string site, .int .i64 no, .int .i64 at_, .int .i64 2, .string id, .string ⟨#[]⟩, .string val, .int .i64 0, .int .i64 0, .string ⟨#[]⟩, .int .i64 0, .string sum] 40)) w.heap.size ⟨site, no, at_, 2, id, ⟨#[]⟩, val, 0, 0, ⟨#[]⟩, 0, sum⟩) := heap_alloc_new w _
  have HB1 := Lib.hid hb1
  have HT := Lib.hid (fun wx (hx : Below w.heap.size w wx) => hT.below hx)
  have HM := Lib.hid (fun wx (hx : Below w.heap.size w wx) => MaxAt.below hM hx)
  have HKI := Lib.hid (fun wx => key_any id wx hid)
  have HKV := Lib.hid (fun wx => key_any val wx hval)
  clear hb1 hT hM hid hval
  go_enter Tryz.func45, Tryz.ntmps45
  go_upto_region 1 with (fail)
  obtain ⟨P, hP⟩ : ∃ P, P = w.heap.size := ⟨_, rfl⟩
  rw [← hP] at HD1 ⊢
  generalize w.alloc (.cells #[.string site, .int .i64 no, .int .i64 at_, .int .i64 2, .string id, .string ⟨#[]⟩, .string val, .int .i64 0, .int .i64 0, .string ⟨#[]⟩, .int .i64 0, .string sum] 40) = w1 at *
  clear hP
  obtain ⟨a0, a1, a2, a3, a4, a5, a6, a7, a8, a9, a10, a11⟩ := HD1.out.c
  dsimp only at a0 a1 a2 a3 a4 a5 a6 a7 a8 a9 a10 a11
  go_wp2_with fail
  refine (unused_2 site no at_ id val sum w1).mono ?_
  rintro e w2 ⟨rfl, hb2⟩
  have HD2 := Lib.hid (HD1.out.keep hb2)
  have HB2 := Lib.hid (below_trans' HB1.out (hb2.mono (Nat.le_refl _)))
  clear hb2 HB1 HD1 a0 a1 a2 a3 a4 a5 a6 a7 a8 a9 a10 a11
  obtain ⟨a0, a1, a2, a3, a4, a5, a6, a7, a8, a9, a10, a11⟩ := HD2.out.c
  dsimp only at a0 a1 a2 a3 a4 a5 a6 a7 a8 a9 a10 a11
  go_wp2_with fail
  refine (HKV.out _).mono ?_
  rintro e wz ⟨rfl, hwz⟩
  obtain rfl := hwz
  go_wp2_with fail
  refine (HKI.out _).mono ?_
  rintro e wz ⟨rfl, hwz⟩
  obtain rfl := hwz
  go_wp2_with fail
  refine (when_still _ _ _).mono ?_
  rintro e wz ⟨rfl, hwz⟩
  obtain rfl := hwz.symm
  go_wp2_with fail
  refine (when_still _ _ _).mono ?_
  rintro e wz ⟨rfl, hwz⟩
  obtain rfl := hwz.symm
  go_wp2_with fail
  refine (first_2D 0 0 0 _ _ rfl rfl _).mono ?_
  rintro e wz ⟨rfl, hwz⟩
  obtain rfl := hwz.symm
  go_wp2_with fail
  go_ret
  exact ⟨rfl, HB2.out.alloc HB2.out.size _⟩
set_option maxHeartbeats 3200000 in
set_option maxRecDepth 100000 in
theorem unused_3 (site : ByteArray) (no at_ : Int) (os : ByteArray) (on : Int) (sum : ByteArray) (w : World) : Calls Tryz.prog 82 #[.agg #[.string site, .int .i64 no, .int .i64 at_, .int .i64 3, .string ⟨#[]⟩, .string ⟨#[]⟩, .string ⟨#[]⟩, .int .i64 0, .int .i64 0, .string os, .int .i64 on, .string sum]] w (BoolPost w false) := by
  have hb1 : Below w.heap.size w (w.alloc (.cells #[.string site, .int .i64 no, .int .i64 at_, .int .i64 3, .string ⟨#[]⟩, .string ⟨#[]⟩, .string ⟨#[]⟩, .int .i64 0, .int .i64 0, .string os, .int .i64 on, .string sum] 40)) := (Below.refl _ _).alloc (Nat.le_refl _) _
  have HD1 : Hid (DeedAt (w.alloc (.cells #[.string site, .int .i64 no, .int .i64 at_, .int .i64 3, .string ⟨#[]⟩, .string ⟨#[]⟩, .string ⟨#[]⟩, .int .i64 0, .int .i64 0, .string os, .int .i64 on, .string sum] 40)) w.heap.size ⟨site, no, at_, 3, ⟨#[]⟩, ⟨#[]⟩, ⟨#[]⟩, 0, 0, os, on, sum⟩) := heap_alloc_new w _
  have HB1 := Lib.hid hb1
  clear hb1
  go_enter Tryz.func82, Tryz.ntmps82
  go_upto_region 1 with (fail)
  obtain ⟨P, hP⟩ : ∃ P, P = w.heap.size := ⟨_, rfl⟩
  rw [← hP] at HD1 ⊢
  generalize w.alloc (.cells #[.string site, .int .i64 no, .int .i64 at_, .int .i64 3, .string ⟨#[]⟩, .string ⟨#[]⟩, .string ⟨#[]⟩, .int .i64 0, .int .i64 0, .string os, .int .i64 on, .string sum] 40) = w1 at *
  clear hP
  obtain ⟨a0, a1, a2, a3, a4, a5, a6, a7, a8, a9, a10, a11⟩ := HD1.out.c
  dsimp only at a0 a1 a2 a3 a4 a5 a6 a7 a8 a9 a10 a11
  go_wp2_with fail
  go_ret
  exact ⟨rfl, HB1.out⟩
set_option maxHeartbeats 3200000 in
set_option maxRecDepth 100000 in
theorem form_3 (site : ByteArray) (no at_ : Int) (os : ByteArray) (on : Int) (sum : ByteArray) (w : World) (hT : Tabs w) (hM : MaxAt w) : Calls Tryz.prog 45 #[.agg #[.string site, .int .i64 no, .int .i64 at_, .int .i64 3, .string ⟨#[]⟩, .string ⟨#[]⟩, .string ⟨#[]⟩, .int .i64 0, .int .i64 0, .string os, .int .i64 on, .string sum]] w fun e w' => e = .returned (.int .i64 0) ∧ Below w.heap.size w w' := by
  have hb1 : Below w.heap.size w (w.alloc (.cells #[.string site, .int .i64 no, .int .i64 at_, .int .i64 3, .string ⟨#[]⟩, .string ⟨#[]⟩, .string ⟨#[]⟩, .int .i64 0, .int .i64 0, .string os, .int .i64 on, .string sum] 40)) := (Below.refl _ _).alloc (Nat.le_refl _) _
  have HD1 : Hid (DeedAt (w.alloc (.cells #[.string site, .int .i64 no, .int .i64 at_, .int .i64 3, .string ⟨#[]⟩, .string ⟨#[]⟩, .string ⟨#[]⟩, .int .i64 0, .int .i64 0, .string os, .int .i64 on, .string sum] 40)) w.heap.size ⟨site, no, at_, 3, ⟨#[]⟩, ⟨#[]⟩, ⟨#[]⟩, 0, 0, os, on, sum⟩) := heap_alloc_new w _
  have HB1 := Lib.hid hb1
  have HT := Lib.hid (fun wx (hx : Below w.heap.size w wx) => hT.below hx)
  have HM := Lib.hid (fun wx (hx : Below w.heap.size w wx) => MaxAt.below hM hx)
  clear hb1 hT hM
  go_enter Tryz.func45, Tryz.ntmps45
  go_upto_region 1 with (fail)
  obtain ⟨P, hP⟩ : ∃ P, P = w.heap.size := ⟨_, rfl⟩
  rw [← hP] at HD1 ⊢
  generalize w.alloc (.cells #[.string site, .int .i64 no, .int .i64 at_, .int .i64 3, .string ⟨#[]⟩, .string ⟨#[]⟩, .string ⟨#[]⟩, .int .i64 0, .int .i64 0, .string os, .int .i64 on, .string sum] 40) = w1 at *
  clear hP
  obtain ⟨a0, a1, a2, a3, a4, a5, a6, a7, a8, a9, a10, a11⟩ := HD1.out.c
  dsimp only at a0 a1 a2 a3 a4 a5 a6 a7 a8 a9 a10 a11
  go_wp2_with fail
  refine (unused_3 site no at_ os on sum w1).mono ?_
  rintro e w2 ⟨rfl, hb2⟩
  have HD2 := Lib.hid (HD1.out.keep hb2)
  have HB2 := Lib.hid (below_trans' HB1.out (hb2.mono (Nat.le_refl _)))
  clear hb2 HB1 HD1 a0 a1 a2 a3 a4 a5 a6 a7 a8 a9 a10 a11
  obtain ⟨a0, a1, a2, a3, a4, a5, a6, a7, a8, a9, a10, a11⟩ := HD2.out.c
  dsimp only at a0 a1 a2 a3 a4 a5 a6 a7 a8 a9 a10 a11
  go_wp2_with fail
  go_ret
  exact ⟨rfl, HB2.out⟩
set_option maxHeartbeats 3200000 in
set_option maxRecDepth 100000 in
theorem unused_4 (site : ByteArray) (no at_ : Int) (id : ByteArray) (fr tu : Int) (sum : ByteArray) (w : World) : Calls Tryz.prog 82 #[.agg #[.string site, .int .i64 no, .int .i64 at_, .int .i64 4, .string id, .string ⟨#[]⟩, .string ⟨#[]⟩, .int .i64 fr, .int .i64 tu, .string ⟨#[]⟩, .int .i64 0, .string sum]] w (BoolPost w false) := by
  have hb1 : Below w.heap.size w (w.alloc (.cells #[.string site, .int .i64 no, .int .i64 at_, .int .i64 4, .string id, .string ⟨#[]⟩, .string ⟨#[]⟩, .int .i64 fr, .int .i64 tu, .string ⟨#[]⟩, .int .i64 0, .string sum] 40)) := (Below.refl _ _).alloc (Nat.le_refl _) _
  have HD1 : Hid (DeedAt (w.alloc (.cells #[.string site, .int .i64 no, .int .i64 at_, .int .i64 4, .string id, .string ⟨#[]⟩, .string ⟨#[]⟩, .int .i64 fr, .int .i64 tu, .string ⟨#[]⟩, .int .i64 0, .string sum] 40)) w.heap.size ⟨site, no, at_, 4, id, ⟨#[]⟩, ⟨#[]⟩, fr, tu, ⟨#[]⟩, 0, sum⟩) := heap_alloc_new w _
  have HB1 := Lib.hid hb1
  clear hb1
  go_enter Tryz.func82, Tryz.ntmps82
  go_upto_region 1 with (fail)
  obtain ⟨P, hP⟩ : ∃ P, P = w.heap.size := ⟨_, rfl⟩
  rw [← hP] at HD1 ⊢
  generalize w.alloc (.cells #[.string site, .int .i64 no, .int .i64 at_, .int .i64 4, .string id, .string ⟨#[]⟩, .string ⟨#[]⟩, .int .i64 fr, .int .i64 tu, .string ⟨#[]⟩, .int .i64 0, .string sum] 40) = w1 at *
  clear hP
  obtain ⟨a0, a1, a2, a3, a4, a5, a6, a7, a8, a9, a10, a11⟩ := HD1.out.c
  dsimp only at a0 a1 a2 a3 a4 a5 a6 a7 a8 a9 a10 a11
  go_wp2_with fail
  go_ret
  exact ⟨rfl, HB1.out⟩
set_option maxHeartbeats 3200000 in
set_option maxRecDepth 100000 in
theorem form_4 (site : ByteArray) (no at_ : Int) (id : ByteArray) (fr tu : Int) (sum : ByteArray) (w : World) (hid : keyL (byteL id) = true) (hspan : 0 ≤ fr ∧ fr < tu ∧ tu ≤ 20000) (hT : Tabs w) (hM : MaxAt w) : Calls Tryz.prog 45 #[.agg #[.string site, .int .i64 no, .int .i64 at_, .int .i64 4, .string id, .string ⟨#[]⟩, .string ⟨#[]⟩, .int .i64 fr, .int .i64 tu, .string ⟨#[]⟩, .int .i64 0, .string sum]] w fun e w' => e = .returned (.int .i64 0) ∧ Below w.heap.size w w' := by
  have hb1 : Below w.heap.size w (w.alloc (.cells #[.string site, .int .i64 no, .int .i64 at_, .int .i64 4, .string id, .string ⟨#[]⟩, .string ⟨#[]⟩, .int .i64 fr, .int .i64 tu, .string ⟨#[]⟩, .int .i64 0, .string sum] 40)) := (Below.refl _ _).alloc (Nat.le_refl _) _
  have HD1 : Hid (DeedAt (w.alloc (.cells #[.string site, .int .i64 no, .int .i64 at_, .int .i64 4, .string id, .string ⟨#[]⟩, .string ⟨#[]⟩, .int .i64 fr, .int .i64 tu, .string ⟨#[]⟩, .int .i64 0, .string sum] 40)) w.heap.size ⟨site, no, at_, 4, id, ⟨#[]⟩, ⟨#[]⟩, fr, tu, ⟨#[]⟩, 0, sum⟩) := heap_alloc_new w _
  have HB1 := Lib.hid hb1
  have HT := Lib.hid (fun wx (hx : Below w.heap.size w wx) => hT.below hx)
  have HM := Lib.hid (fun wx (hx : Below w.heap.size w wx) => MaxAt.below hM hx)
  have HKI := Lib.hid (fun wx => key_any id wx hid)
  obtain ⟨hs1, hs2, hs3⟩ := hspan
  clear hb1 hT hM hid
  go_enter Tryz.func45, Tryz.ntmps45
  go_upto_region 1 with (fail)
  obtain ⟨P, hP⟩ : ∃ P, P = w.heap.size := ⟨_, rfl⟩
  rw [← hP] at HD1 ⊢
  generalize w.alloc (.cells #[.string site, .int .i64 no, .int .i64 at_, .int .i64 4, .string id, .string ⟨#[]⟩, .string ⟨#[]⟩, .int .i64 fr, .int .i64 tu, .string ⟨#[]⟩, .int .i64 0, .string sum] 40) = w1 at *
  clear hP
  obtain ⟨a0, a1, a2, a3, a4, a5, a6, a7, a8, a9, a10, a11⟩ := HD1.out.c
  dsimp only at a0 a1 a2 a3 a4 a5 a6 a7 a8 a9 a10 a11
  go_wp2_with fail
  refine (unused_4 site no at_ id fr tu sum w1).mono ?_
  rintro e w2 ⟨rfl, hb2⟩
  have HD2 := Lib.hid (HD1.out.keep hb2)
  have HB2 := Lib.hid (below_trans' HB1.out (hb2.mono (Nat.le_refl _)))
  clear hb2 HB1 HD1 a0 a1 a2 a3 a4 a5 a6 a7 a8 a9 a10 a11
  obtain ⟨a0, a1, a2, a3, a4, a5, a6, a7, a8, a9, a10, a11⟩ := HD2.out.c
  dsimp only at a0 a1 a2 a3 a4 a5 a6 a7 a8 a9 a10 a11
  go_wp2_with fail
  refine (HKI.out _).mono ?_
  rintro e wz ⟨rfl, hwz⟩
  obtain rfl := hwz
  go_wp2_with fail
  refine (when_still _ _ _).mono ?_
  rintro e wz ⟨rfl, hwz⟩
  obtain rfl := hwz.symm
  go_wp2_with fail
  refine (when_still _ _ _).mono ?_
  rintro e wz ⟨rfl, hwz⟩
  obtain rfl := hwz.symm
  go_wp2_with fail
  refine (first_2D 0 0 0 _ _ rfl rfl _).mono ?_
  rintro e wz ⟨rfl, hwz⟩
  obtain rfl := hwz.symm
  go_wp2_with fail
  go_ret
  exact ⟨rfl, HB2.out.alloc HB2.out.size _⟩
set_option maxHeartbeats 3200000 in
set_option maxRecDepth 100000 in
theorem unused_5 (site : ByteArray) (no at_ : Int) (id : ByteArray) (val : ByteArray) (sum : ByteArray) (w : World) : Calls Tryz.prog 82 #[.agg #[.string site, .int .i64 no, .int .i64 at_, .int .i64 5, .string id, .string ⟨#[]⟩, .string val, .int .i64 0, .int .i64 0, .string ⟨#[]⟩, .int .i64 0, .string sum]] w (BoolPost w false) := by
  have hb1 : Below w.heap.size w (w.alloc (.cells #[.string site, .int .i64 no, .int .i64 at_, .int .i64 5, .string id, .string ⟨#[]⟩, .string val, .int .i64 0, .int .i64 0, .string ⟨#[]⟩, .int .i64 0, .string sum] 40)) := (Below.refl _ _).alloc (Nat.le_refl _) _
  have HD1 : Hid (DeedAt (w.alloc (.cells #[.string site, .int .i64 no, .int .i64 at_, .int .i64 5, .string id, .string ⟨#[]⟩, .string val, .int .i64 0, .int .i64 0, .string ⟨#[]⟩, .int .i64 0, .string sum] 40)) w.heap.size ⟨site, no, at_, 5, id, ⟨#[]⟩, val, 0, 0, ⟨#[]⟩, 0, sum⟩) := heap_alloc_new w _
  have HB1 := Lib.hid hb1
  clear hb1
  go_enter Tryz.func82, Tryz.ntmps82
  go_upto_region 1 with (fail)
  obtain ⟨P, hP⟩ : ∃ P, P = w.heap.size := ⟨_, rfl⟩
  rw [← hP] at HD1 ⊢
  generalize w.alloc (.cells #[.string site, .int .i64 no, .int .i64 at_, .int .i64 5, .string id, .string ⟨#[]⟩, .string val, .int .i64 0, .int .i64 0, .string ⟨#[]⟩, .int .i64 0, .string sum] 40) = w1 at *
  clear hP
  obtain ⟨a0, a1, a2, a3, a4, a5, a6, a7, a8, a9, a10, a11⟩ := HD1.out.c
  dsimp only at a0 a1 a2 a3 a4 a5 a6 a7 a8 a9 a10 a11
  go_wp2_with fail
  go_ret
  exact ⟨rfl, HB1.out⟩
set_option maxHeartbeats 3200000 in
set_option maxRecDepth 100000 in
theorem form_5 (site : ByteArray) (no at_ : Int) (id : ByteArray) (val : ByteArray) (sum : ByteArray) (w : World) (hid : keyL (byteL id) = true) (hval : plainB (byteL val) = true ∧ 1 ≤ val.size ∧ val.size ≤ 200) (hT : Tabs w) (hM : MaxAt w) : Calls Tryz.prog 45 #[.agg #[.string site, .int .i64 no, .int .i64 at_, .int .i64 5, .string id, .string ⟨#[]⟩, .string val, .int .i64 0, .int .i64 0, .string ⟨#[]⟩, .int .i64 0, .string sum]] w fun e w' => e = .returned (.int .i64 0) ∧ Below w.heap.size w w' := by
  have hb1 : Below w.heap.size w (w.alloc (.cells #[.string site, .int .i64 no, .int .i64 at_, .int .i64 5, .string id, .string ⟨#[]⟩, .string val, .int .i64 0, .int .i64 0, .string ⟨#[]⟩, .int .i64 0, .string sum] 40)) := (Below.refl _ _).alloc (Nat.le_refl _) _
  have HD1 : Hid (DeedAt (w.alloc (.cells #[.string site, .int .i64 no, .int .i64 at_, .int .i64 5, .string id, .string ⟨#[]⟩, .string val, .int .i64 0, .int .i64 0, .string ⟨#[]⟩, .int .i64 0, .string sum] 40)) w.heap.size ⟨site, no, at_, 5, id, ⟨#[]⟩, val, 0, 0, ⟨#[]⟩, 0, sum⟩) := heap_alloc_new w _
  have HB1 := Lib.hid hb1
  have HT := Lib.hid (fun wx (hx : Below w.heap.size w wx) => hT.below hx)
  have HM := Lib.hid (fun wx (hx : Below w.heap.size w wx) => MaxAt.below hM hx)
  have HKI := Lib.hid (fun wx => key_any id wx hid)
  have HPV := Lib.hid (fun wx (hx : Below w.heap.size w wx) => plainP_ok val wx hval.1 (by omega) (HT.out wx hx) (HM.out wx hx))
  have HIN := Lib.hid (fun wx => in_any (val.size : Int) 1 200 wx)
  rw [inB_in _ _ _ (by omega) (by omega)] at HIN
  clear hb1 hT hM hid hval
  go_enter Tryz.func45, Tryz.ntmps45
  go_upto_region 1 with (fail)
  obtain ⟨P, hP⟩ : ∃ P, P = w.heap.size := ⟨_, rfl⟩
  rw [← hP] at HD1 ⊢
  generalize w.alloc (.cells #[.string site, .int .i64 no, .int .i64 at_, .int .i64 5, .string id, .string ⟨#[]⟩, .string val, .int .i64 0, .int .i64 0, .string ⟨#[]⟩, .int .i64 0, .string sum] 40) = w1 at *
  clear hP
  obtain ⟨a0, a1, a2, a3, a4, a5, a6, a7, a8, a9, a10, a11⟩ := HD1.out.c
  dsimp only at a0 a1 a2 a3 a4 a5 a6 a7 a8 a9 a10 a11
  go_wp2_with fail
  refine (unused_5 site no at_ id val sum w1).mono ?_
  rintro e w2 ⟨rfl, hb2⟩
  have HD2 := Lib.hid (HD1.out.keep hb2)
  have HB2 := Lib.hid (below_trans' HB1.out (hb2.mono (Nat.le_refl _)))
  clear hb2 HB1 HD1 a0 a1 a2 a3 a4 a5 a6 a7 a8 a9 a10 a11
  obtain ⟨a0, a1, a2, a3, a4, a5, a6, a7, a8, a9, a10, a11⟩ := HD2.out.c
  dsimp only at a0 a1 a2 a3 a4 a5 a6 a7 a8 a9 a10 a11
  go_wp2_with fail
  refine (HIN.out _).mono ?_
  rintro e wz ⟨rfl, hwz⟩
  obtain rfl := hwz
  go_wp2_with fail
  refine (HPV.out _ HB2.out).mono ?_
  rintro e w3 ⟨rfl, hb3⟩
  have HD3 := Lib.hid (HD2.out.keep hb3)
  have HB3 := Lib.hid (below_trans' HB2.out hb3)
  clear hb3 HB2 HD2 a0 a1 a2 a3 a4 a5 a6 a7 a8 a9 a10 a11
  obtain ⟨a0, a1, a2, a3, a4, a5, a6, a7, a8, a9, a10, a11⟩ := HD3.out.c
  dsimp only at a0 a1 a2 a3 a4 a5 a6 a7 a8 a9 a10 a11
  go_wp2_with fail
  refine (HKI.out _).mono ?_
  rintro e wz ⟨rfl, hwz⟩
  obtain rfl := hwz
  go_wp2_with fail
  refine (when_still _ _ _).mono ?_
  rintro e wz ⟨rfl, hwz⟩
  obtain rfl := hwz.symm
  go_wp2_with fail
  refine (when_still _ _ _).mono ?_
  rintro e wz ⟨rfl, hwz⟩
  obtain rfl := hwz.symm
  go_wp2_with fail
  refine (first_2D 0 0 0 _ _ rfl rfl _).mono ?_
  rintro e wz ⟨rfl, hwz⟩
  obtain rfl := hwz.symm
  go_wp2_with fail
  go_ret
  exact ⟨rfl, HB3.out.alloc HB3.out.size _⟩
set_option maxHeartbeats 3200000 in
set_option maxRecDepth 100000 in
theorem unused_6 (site : ByteArray) (no at_ : Int) (os : ByteArray) (on : Int) (sum : ByteArray) (w : World) : Calls Tryz.prog 82 #[.agg #[.string site, .int .i64 no, .int .i64 at_, .int .i64 6, .string ⟨#[]⟩, .string ⟨#[]⟩, .string ⟨#[]⟩, .int .i64 0, .int .i64 0, .string os, .int .i64 on, .string sum]] w (BoolPost w false) := by
  have hb1 : Below w.heap.size w (w.alloc (.cells #[.string site, .int .i64 no, .int .i64 at_, .int .i64 6, .string ⟨#[]⟩, .string ⟨#[]⟩, .string ⟨#[]⟩, .int .i64 0, .int .i64 0, .string os, .int .i64 on, .string sum] 40)) := (Below.refl _ _).alloc (Nat.le_refl _) _
  have HD1 : Hid (DeedAt (w.alloc (.cells #[.string site, .int .i64 no, .int .i64 at_, .int .i64 6, .string ⟨#[]⟩, .string ⟨#[]⟩, .string ⟨#[]⟩, .int .i64 0, .int .i64 0, .string os, .int .i64 on, .string sum] 40)) w.heap.size ⟨site, no, at_, 6, ⟨#[]⟩, ⟨#[]⟩, ⟨#[]⟩, 0, 0, os, on, sum⟩) := heap_alloc_new w _
  have HB1 := Lib.hid hb1
  clear hb1
  go_enter Tryz.func82, Tryz.ntmps82
  go_upto_region 1 with (fail)
  obtain ⟨P, hP⟩ : ∃ P, P = w.heap.size := ⟨_, rfl⟩
  rw [← hP] at HD1 ⊢
  generalize w.alloc (.cells #[.string site, .int .i64 no, .int .i64 at_, .int .i64 6, .string ⟨#[]⟩, .string ⟨#[]⟩, .string ⟨#[]⟩, .int .i64 0, .int .i64 0, .string os, .int .i64 on, .string sum] 40) = w1 at *
  clear hP
  obtain ⟨a0, a1, a2, a3, a4, a5, a6, a7, a8, a9, a10, a11⟩ := HD1.out.c
  dsimp only at a0 a1 a2 a3 a4 a5 a6 a7 a8 a9 a10 a11
  go_wp2_with fail
  go_ret
  exact ⟨rfl, HB1.out⟩
set_option maxHeartbeats 3200000 in
set_option maxRecDepth 100000 in
theorem form_6 (site : ByteArray) (no at_ : Int) (os : ByteArray) (on : Int) (sum : ByteArray) (w : World) (hT : Tabs w) (hM : MaxAt w) : Calls Tryz.prog 45 #[.agg #[.string site, .int .i64 no, .int .i64 at_, .int .i64 6, .string ⟨#[]⟩, .string ⟨#[]⟩, .string ⟨#[]⟩, .int .i64 0, .int .i64 0, .string os, .int .i64 on, .string sum]] w fun e w' => e = .returned (.int .i64 0) ∧ Below w.heap.size w w' := by
  have hb1 : Below w.heap.size w (w.alloc (.cells #[.string site, .int .i64 no, .int .i64 at_, .int .i64 6, .string ⟨#[]⟩, .string ⟨#[]⟩, .string ⟨#[]⟩, .int .i64 0, .int .i64 0, .string os, .int .i64 on, .string sum] 40)) := (Below.refl _ _).alloc (Nat.le_refl _) _
  have HD1 : Hid (DeedAt (w.alloc (.cells #[.string site, .int .i64 no, .int .i64 at_, .int .i64 6, .string ⟨#[]⟩, .string ⟨#[]⟩, .string ⟨#[]⟩, .int .i64 0, .int .i64 0, .string os, .int .i64 on, .string sum] 40)) w.heap.size ⟨site, no, at_, 6, ⟨#[]⟩, ⟨#[]⟩, ⟨#[]⟩, 0, 0, os, on, sum⟩) := heap_alloc_new w _
  have HB1 := Lib.hid hb1
  have HT := Lib.hid (fun wx (hx : Below w.heap.size w wx) => hT.below hx)
  have HM := Lib.hid (fun wx (hx : Below w.heap.size w wx) => MaxAt.below hM hx)
  clear hb1 hT hM
  go_enter Tryz.func45, Tryz.ntmps45
  go_upto_region 1 with (fail)
  obtain ⟨P, hP⟩ : ∃ P, P = w.heap.size := ⟨_, rfl⟩
  rw [← hP] at HD1 ⊢
  generalize w.alloc (.cells #[.string site, .int .i64 no, .int .i64 at_, .int .i64 6, .string ⟨#[]⟩, .string ⟨#[]⟩, .string ⟨#[]⟩, .int .i64 0, .int .i64 0, .string os, .int .i64 on, .string sum] 40) = w1 at *
  clear hP
  obtain ⟨a0, a1, a2, a3, a4, a5, a6, a7, a8, a9, a10, a11⟩ := HD1.out.c
  dsimp only at a0 a1 a2 a3 a4 a5 a6 a7 a8 a9 a10 a11
  go_wp2_with fail
  refine (unused_6 site no at_ os on sum w1).mono ?_
  rintro e w2 ⟨rfl, hb2⟩
  have HD2 := Lib.hid (HD1.out.keep hb2)
  have HB2 := Lib.hid (below_trans' HB1.out (hb2.mono (Nat.le_refl _)))
  clear hb2 HB1 HD1 a0 a1 a2 a3 a4 a5 a6 a7 a8 a9 a10 a11
  obtain ⟨a0, a1, a2, a3, a4, a5, a6, a7, a8, a9, a10, a11⟩ := HD2.out.c
  dsimp only at a0 a1 a2 a3 a4 a5 a6 a7 a8 a9 a10 a11
  go_wp2_with fail
  go_ret
  exact ⟨rfl, HB2.out⟩
theorem formError_ok (d : Deed) (w : World) (hg : GoodD d) (hT : Tabs w) (hM : MaxAt w) : Calls Tryz.prog 45 #[d.v] w fun e w' => e = .returned (.int .i64 0) ∧ Below w.heap.size w w' := by
  obtain ⟨site, no, at_, kind, id, fld, val, fr, tu, os, on, sum⟩ := d
  have hk : kind = 1 ∨ kind = 2 ∨ kind = 3 ∨ kind = 4 ∨ kind = 5 ∨ kind = 6 := by have := hg.kind; simp only at this; omega
  have h1 := hg.id
  have h2 := hg.fld
  have h3 := hg.val
  have h4 := hg.span
  have h5 := hg.of_
  clear hg
  rcases hk with rfl | rfl | rfl | rfl | rfl | rfl
  all_goals simp [backB] at h1 h2 h3 h4 h5
  · obtain ⟨rfl, rfl⟩ := h4
    obtain ⟨rfl, rfl⟩ := h5
    exact form_1 site no at_ id fld val sum w h1 h2 h3 hT hM
  · obtain ⟨rfl, rfl⟩ := h4
    obtain ⟨rfl, rfl⟩ := h5
    subst h2
    exact form_2 site no at_ id val sum w h1 h3 hT hM
  · obtain ⟨rfl, rfl⟩ := h4
    subst h1 h2 h3
    exact form_3 site no at_ os on sum w hT hM
  · obtain ⟨rfl, rfl⟩ := h5
    subst h2 h3
    exact form_4 site no at_ id fr tu sum w h1 h4 hT hM
  · obtain ⟨rfl, rfl⟩ := h4
    obtain ⟨rfl, rfl⟩ := h5
    subst h2
    exact form_5 site no at_ id val sum w h1 h3 hT hM
  · obtain ⟨rfl, rfl⟩ := h4
    subst h1 h2 h3
    exact form_6 site no at_ os on sum w hT hM
end Go.Proofs.YthogkcgklakibaaGreatDoor
