
/-
  chasekeep1's matters: a first deed of a site is added.
-/
import Derived.Test.YthogkcgklakibaaGreatDoorDdChk
import Derived.Test.YthogkcgklakibaaGreatDoorDdAdd

namespace Go.Proofs.YthogkcgklakibaaGreatDoor
open Go.RowKit
attribute [local go_sem ↓] Go.wp_at_zero Go.wp_at_succ

theorem nilAt (w : World) : DeedsAt w none 0 0 [] := ⟨rfl, Nat.le_refl _, fun _ => rfl, fun h => absurd h (by decide)⟩
theorem first_4z (g : Nat) (w : World) (h : g = w.heap.size) (t : TypeId) : Calls Tryz.prog 37 #[.slice (some ⟨g, 0, none⟩) 4 4] (w.alloc (.cells #[.int .i64 0, .int .i64 0, .int .i64 0, .int .i64 0] t)) fun e w' => e = .returned (.int .i64 0) ∧ w' = (w.alloc (.cells #[.int .i64 0, .int .i64 0, .int .i64 0, .int .i64 0] t)) := by
  subst h
  refine (first_any _ 4 4 [0, 0, 0, 0] _ rfl (by omega) (fun j hj => ?_)).mono fun _ _ h => ⟨h.1, h.2.symm⟩
  rw [World.cell?_alloc_at _ _ _ _ rfl]
  match j, hj with
  | 0, _ => rfl
  | 1, _ => rfl
  | 2, _ => rfl
  | 3, _ => rfl
theorem first_3z (g : Nat) (w : World) (h : g = w.heap.size) (t : TypeId) : Calls Tryz.prog 37 #[.slice (some ⟨g, 0, none⟩) 3 3] (w.alloc (.cells #[.int .i64 0, .int .i64 0, .int .i64 0] t)) fun e w' => e = .returned (.int .i64 0) ∧ w' = (w.alloc (.cells #[.int .i64 0, .int .i64 0, .int .i64 0] t)) := by
  subst h
  refine (first_any _ 3 3 [0, 0, 0] _ rfl (by omega) (fun j hj => ?_)).mono fun _ _ h => ⟨h.1, h.2.symm⟩
  rw [World.cell?_alloc_at _ _ _ _ rfl]
  match j, hj with
  | 0, _ => rfl
  | 1, _ => rfl
  | 2, _ => rfl
set_option maxHeartbeats 1600000 in
theorem siteError_ok (A : Option Addr) (n c : Nat) (s : ByteArray) (z : Int) (w : World) (hn : n < 2000) (hk : keyL (byteL s) = true) (hz : 0 ≤ z ∧ z ≤ 5761439) (hL : Calls Tryz.prog 38 #[.slice A n c] w fun e w' => e = .returned (.int .i64 0) ∧ Below w.heap.size w w') :
    Calls Tryz.prog 54 #[.slice A n c, .string s, .int .i64 z] w fun e w' => e = .returned (.int .i64 0) ∧ Below w.heap.size w w' := by
  have HL := Lib.hid hL
  have HK := Lib.hid (fun wx => key_any s wx hk)
  have HM := Lib.hid (fun wx => moment_ok z wx hz)
  have h2 : ¬ (n : Int) = 2000 := by omega
  have h2' : ((n : Int) == 2000) = false := by simpa using h2
  clear hL hk hz
  go_enter Tryz.func54, Tryz.ntmps54
  go_wp2_with fail
  refine HL.out.mono ?_
  rintro e w1 ⟨rfl, hb1⟩
  have HB1 := Lib.hid hb1
  clear hb1 HL
  go_wp2_with fail
  refine (HK.out _).mono ?_
  rintro e wz ⟨rfl, hwz⟩
  obtain rfl := hwz
  go_wp2_with fail
  refine (when_none _ _).mono ?_
  rintro e wz ⟨rfl, hwz⟩
  obtain rfl := hwz.symm
  go_wp2_with fail
  refine (when_none _ _).mono ?_
  rintro e wz ⟨rfl, hwz⟩
  obtain rfl := hwz.symm
  go_wp2_with fail
  refine (HM.out _).mono ?_
  rintro e wz ⟨rfl, hwz⟩
  obtain rfl := hwz.symm
  go_wp2_with fail
  refine (when_none _ _).mono ?_
  rintro e wz ⟨rfl, hwz⟩
  obtain rfl := hwz.symm
  go_wp2_with fail
  refine (first_4z _ _ rfl _).mono ?_
  rintro e wz ⟨rfl, hwz⟩
  obtain rfl := hwz.symm
  go_wp2_with fail
  go_ret
  exact ⟨rfl, HB1.out.alloc HB1.out.size _⟩
set_option maxHeartbeats 800000 in
theorem tip_nil (s : ByteArray) (w : World) : Calls Tryz.prog 71 #[.slice none 0 0, .string s] w fun e w' => e = .returned (.tuple #[.int .i64 0, .string ⟨#[]⟩]) ∧ w' = w := by
  go_enter Tryz.func71, Tryz.ntmps71
  go_wp2_with fail
  refine wp_loop_rounds 1 ?_
  rw [rounds_succ]
  go_wp2_with fail
  go_ret2
  exact ⟨rfl, rfl⟩
set_option maxHeartbeats 1600000 in
set_option maxRecDepth 100000 in
theorem search_nil (s : ByteArray) (z : Int) (w : World) : Calls Tryz.prog 92 #[.slice none 0 0, .agg #[.string s, .int .i64 z], .func (.func 93) #[] #[]] w fun e w' => (∃ b, e = .returned (.tuple #[.int .i64 0, .bool b])) ∧ Below w.heap.size w w' := by
  have hal : Below w.heap.size w (w.alloc (.cells #[.string s, .int .i64 z] 36)) := (Below.refl _ _).alloc (Nat.le_refl _) _
  have HB1 := Lib.hid hal
  clear hal
  go_enter Tryz.func92, Tryz.ntmps92
  go_upto_region 1 with (fail)
  generalize w.alloc (.cells #[.string s, .int .i64 z] 36) = w1 at *
  go_wp2_with fail
  refine wp_loop_rounds 1 ?_
  rw [rounds_succ]
  go_upto_region 8 with (fail)
  refine wp_region_held_drew (S := fun _ => True) (by kernel_rfl) trivial (fun hHeld => ?_)
  refine wpAnyH_take (i := 0) (oi := ⟨some 35, _, _, _, _, _⟩) (v := ?_) rfl (by kernel_rfl) (by kernel_rfl) (by kernel_rfl) (fun _ _ _ h => h) (Or.inl ⟨by rfl, ?_⟩) hHeld ?_
  rotate_left
  · (intro w hSw; (try dsimp only at hSw); go_simp; (try (with_reducible rfl)))
  (try simp only [Act.put, List.setIfInBounds_toArray, List.set_cons_zero, List.set_cons_succ])
  refine wpAnyH_take (i := 1) (oi := ⟨some 36, _, _, _, _, _⟩) (v := ?_) rfl (by kernel_rfl) (by kernel_rfl) (by kernel_rfl) (fun _ _ _ h => h) (Or.inl ⟨by rfl, ?_⟩) hHeld ?_
  rotate_left
  · (intro w hSw; (try dsimp only at hSw); go_simp; (try (with_reducible rfl)))
  (try simp only [Act.put, List.setIfInBounds_toArray, List.set_cons_zero, List.set_cons_succ])
  refine wpAnyH_take (i := 2) (oi := ⟨some 37, _, _, _, _, _⟩) (v := ?_) rfl (by kernel_rfl) (by kernel_rfl) (by kernel_rfl) (fun _ _ _ h => h) (Or.inl ⟨by rfl, ?_⟩) hHeld ?_
  rotate_left
  · (intro w hSw; (try dsimp only at hSw); go_simp; (try (with_reducible rfl)))
  (try simp only [Act.put, List.setIfInBounds_toArray, List.set_cons_zero, List.set_cons_succ])
  refine wpAnyH_take (i := 3) (oi := ⟨some 38, _, _, _, _, _⟩) (v := ?_) rfl (by kernel_rfl) (by kernel_rfl) (by kernel_rfl) (fun _ _ _ h => h) (Or.inl ⟨by rfl, ?_⟩) hHeld ?_
  rotate_left
  · (intro w hSw; (try dsimp only at hSw); go_simp; (try (with_reducible rfl)))
  (try simp only [Act.put, List.setIfInBounds_toArray, List.set_cons_zero, List.set_cons_succ])
  refine wpAnyH_take (i := 4) (oi := ⟨some 39, _, _, _, _, _⟩) (v := ?_) rfl (by kernel_rfl) (by kernel_rfl) (by kernel_rfl) (fun _ _ _ h => h) (Or.inl ⟨by rfl, ?_⟩) hHeld ?_
  rotate_left
  · (intro w hSw; (try dsimp only at hSw); go_simp; (try (with_reducible rfl)))
  (try simp only [Act.put, List.setIfInBounds_toArray, List.set_cons_zero, List.set_cons_succ])
  refine wpAnyH_take (i := 5) (oi := ⟨some 40, _, _, _, _, _⟩) (v := undef) rfl (by kernel_rfl) (by kernel_rfl) (by kernel_rfl) (fun _ _ _ h => h) (Or.inr ⟨by rfl, rfl⟩) hHeld ?_
  (try simp only [Act.put, List.setIfInBounds_toArray, List.set_cons_zero, List.set_cons_succ])
  refine wpAnyH_take (i := 6) (oi := ⟨some 41, _, _, _, _, _⟩) (v := undef) rfl (by kernel_rfl) (by kernel_rfl) (by kernel_rfl) (fun _ _ _ h => h) (Or.inr ⟨by rfl, rfl⟩) hHeld ?_
  (try simp only [Act.put, List.setIfInBounds_toArray, List.set_cons_zero, List.set_cons_succ])
  refine wpAnyH_take (i := 7) (oi := ⟨some 42, _, _, _, _, _⟩) (v := undef) rfl (by kernel_rfl) (by kernel_rfl) (by kernel_rfl) (fun _ _ _ h => h) (Or.inr ⟨by rfl, rfl⟩) hHeld ?_
  (try simp only [Act.put, List.setIfInBounds_toArray, List.set_cons_zero, List.set_cons_succ])
  refine wpAnyH_take (i := 8) (oi := ⟨some 43, _, _, _, _, _⟩) (v := undef) rfl (by kernel_rfl) (by kernel_rfl) (by kernel_rfl) (fun _ _ _ h => h) (Or.inr ⟨by rfl, rfl⟩) hHeld ?_
  (try simp only [Act.put, List.setIfInBounds_toArray, List.set_cons_zero, List.set_cons_succ])
  refine wpAnyH_take (i := 9) (oi := ⟨some 44, _, _, _, _, _⟩) (v := undef) rfl (by kernel_rfl) (by kernel_rfl) (by kernel_rfl) (fun _ _ _ h => h) (Or.inr ⟨by rfl, rfl⟩) hHeld ?_
  (try simp only [Act.put, List.setIfInBounds_toArray, List.set_cons_zero, List.set_cons_succ])
  refine wpAnyH_take (i := 10) (oi := ⟨some 45, _, _, _, _, _⟩) (v := undef) rfl (by kernel_rfl) (by kernel_rfl) (by kernel_rfl) (fun _ _ _ h => h) (Or.inr ⟨by rfl, rfl⟩) hHeld ?_
  (try simp only [Act.put, List.setIfInBounds_toArray, List.set_cons_zero, List.set_cons_succ])
  refine wpAnyH_take (i := 11) (oi := ⟨some 46, _, _, _, _, _⟩) (v := undef) rfl (by kernel_rfl) (by kernel_rfl) (by kernel_rfl) (fun _ _ _ h => h) (Or.inr ⟨by rfl, rfl⟩) hHeld ?_
  (try simp only [Act.put, List.setIfInBounds_toArray, List.set_cons_zero, List.set_cons_succ])
  refine wpAnyH_take (i := 12) (oi := ⟨some 47, _, _, _, _, _⟩) (v := undef) rfl (by kernel_rfl) (by kernel_rfl) (by kernel_rfl) (fun _ _ _ h => h) (Or.inr ⟨by rfl, rfl⟩) hHeld ?_
  (try simp only [Act.put, List.setIfInBounds_toArray, List.set_cons_zero, List.set_cons_succ])
  refine wpAnyH_take (i := 13) (oi := ⟨some 48, _, _, _, _, _⟩) (v := ?_) rfl (by kernel_rfl) (by kernel_rfl) (by kernel_rfl) (fun _ _ _ h => h) (Or.inl ⟨by rfl, ?_⟩) hHeld ?_
  rotate_left
  · (intro w hSw; (try dsimp only at hSw); go_simp; (try (with_reducible rfl)))
  (try simp only [Act.put, List.setIfInBounds_toArray, List.set_cons_zero, List.set_cons_succ])
  refine wpAnyH_take (i := 14) (oi := ⟨some 6, _, _, _, _, _⟩) (v := ?_) rfl (by kernel_rfl) (by kernel_rfl) (by kernel_rfl) (fun _ _ _ h => h) (Or.inl ⟨by rfl, ?_⟩) hHeld ?_
  rotate_left
  · (intro w hSw; (try dsimp only at hSw); go_simp; (try (with_reducible rfl)))
  (try simp only [Act.put, List.setIfInBounds_toArray, List.set_cons_zero, List.set_cons_succ])
  refine wpAnyH_take (i := 15) (oi := ⟨some 7, _, _, _, _, _⟩) (v := ?_) rfl (by kernel_rfl) (by kernel_rfl) (by kernel_rfl) (fun _ _ _ h => h) (Or.inl ⟨by rfl, ?_⟩) hHeld ?_
  rotate_left
  · (intro w hSw; (try dsimp only at hSw); go_simp; (try (with_reducible rfl)))
  (try simp only [Act.put, List.setIfInBounds_toArray, List.set_cons_zero, List.set_cons_succ])
  refine wpAnyH_done (by kernel_rfl) ?_ _
  go_wp2_with fail
  go_ret2
  exact ⟨⟨_, rfl⟩, HB1.out.drew⟩
set_option maxHeartbeats 1600000 in
set_option maxRecDepth 100000 in
theorem insert_nil (v : Value) (base b : Nat) (d : Deed) (w : World) (hO : Owns DeedE w base v []) (hR : ElemsAt DeedE w (some ⟨b, 0, none⟩) 1 1 [d]) (hb : base ≤ w.heap.size) :
    Calls Tryz.prog 94 #[v, .int .i64 0, .slice (some ⟨b, 0, none⟩) 1 1] w fun e w' => (∃ A c, e = .returned (.slice A 1 c)) ∧ w.grownBy w' v.ownBlock := by
  have HO := Lib.hid hO
  have HR := Lib.hid hR
  obtain ⟨A0, c0, hv, -, hat, -⟩ := hO.at_ deedE_ok
  subst hv
  have h00 := hat.2.2.1
  simp only [List.length_nil] at HO ⊢
  clear hO hR hat
  rcases A0 with _ | a
  all_goals
    first | (have hc0 := h00 rfl; subst hc0; clear h00) | clear h00
    go_enter Tryz.func94, Tryz.ntmps94
    go_wp2_with (at_builtin; refine append_elems deedE_ok rfl _ _ rfl base _ [] rfl HO.out (some ⟨b, 0, none⟩) 1 1 [d] rfl HR.out (by simp) hb ?_; intro v6 w6 hown6 hgrow6 _; obtain ⟨A6, c6, hv6, -, -, -⟩ := hown6.at_ deedE_ok; subst hv6; have HG6 := Lib.hid hgrow6; clear hown6 hgrow6)
    go_wp2_with fail
    go_ret
    exact ⟨⟨_, _, rfl⟩, HG6.out⟩
/-- The first deed of matters. -/
def matD : Deed := ⟨⟨#[97]⟩, 0, 5, 2, ⟨#[120]⟩, ⟨#[]⟩, ⟨#[104, 111, 116]⟩, 0, 0, ⟨#[]⟩, 0, ⟨#[]⟩⟩
theorem matD_small : SmallD (matD.noS 1) := by constructor <;> decide
def OneDPost (w : World) (e : Ending) (w' : World) : Prop := (∃ A c, e = .returned (.slice A 1 c)) ∧ Below w.heap.size w w'
set_option maxHeartbeats 3200000 in
set_option maxRecDepth 100000 in
theorem added_nil (d : Deed) (w : World) (hd : SmallD (d.noS 1)) (hP : PowAt w) (hS : StandAt w) :
    Calls Tryz.prog 55 #[.slice none 0 0, d.v] w (OneDPost w) := by
  have hal : Below w.heap.size w (w.alloc (.cells #[.string d.site, .int .i64 d.no, .int .i64 d.at_, .int .i64 d.kind, .string d.id, .string d.fld, .string d.val, .int .i64 d.from_, .int .i64 d.to_, .string d.osite, .int .i64 d.ono, .string d.sum] 40)) := (Below.refl _ _).alloc (Nat.le_refl _) _
  have HD1 : Hid (DeedAt (w.alloc (.cells #[.string d.site, .int .i64 d.no, .int .i64 d.at_, .int .i64 d.kind, .string d.id, .string d.fld, .string d.val, .int .i64 d.from_, .int .i64 d.to_, .string d.osite, .int .i64 d.ono, .string d.sum] 40)) w.heap.size d) := deed_new w d
  have HB1 := Lib.hid hal
  have HPW : Hid (∀ wx, Below w.heap.size w wx → PowAt wx ∧ StandAt wx) := fun wx hx => ⟨hP.below hx, hS.below hx⟩
  have HSM := Lib.hid hd
  clear hal hP hS hd
  unfold Deed.v
  go_enter Tryz.func55, Tryz.ntmps55
  go_upto_region 1 with (fail)
  obtain ⟨P, hP⟩ : ∃ P, P = w.heap.size := ⟨_, rfl⟩
  rw [← hP] at HD1 ⊢
  have HPL : Hid (w.heap.size ≤ P) := by show _ ≤ _; omega
  generalize w.alloc (.cells #[.string d.site, .int .i64 d.no, .int .i64 d.at_, .int .i64 d.kind, .string d.id, .string d.fld, .string d.val, .int .i64 d.from_, .int .i64 d.to_, .string d.osite, .int .i64 d.ono, .string d.sum] 40) = w1 at *
  clear hP
  obtain ⟨a0, a1, a2, a3, a4, a5, a6, a7, a8, a9, a10, a11⟩ := HD1.out.c
  go_wp2_with fail
  refine (tip_nil _ _).mono ?_
  rintro e wz ⟨rfl, hwz⟩
  obtain rfl := hwz.symm
  have HD2 := Lib.hid (HD1.out.no 1)
  have HB2 : Hid (Below w.heap.size w (w1.setCell ⟨P, 1, none⟩ (.int .i64 1))) := HB1.out.setCell HPL.out _
  obtain ⟨z0, z1, z2, z3, z4, z5, z6, z7, z8, z9, z10, z11⟩ := HD1.out.f
  go_upto_region 3 with (fail)
  clear a0 a1 a2 a3 a4 a5 a6 a7 a8 a9 a10 a11 z0 z1 z2 z3 z4 z5 z6 z7 z8 z9 z10 z11 HD1 HB1
  generalize w1.setCell ⟨P, 1, none⟩ (.int .i64 1) = w2 at *
  obtain ⟨a0, a1, a2, a3, a4, a5, a6, a7, a8, a9, a10, a11⟩ := HD2.out.c
  simp only [Deed.noS] at a0 a1 a2 a3 a4 a5 a6 a7 a8 a9 a10 a11
  have HSU : Hid (Calls Tryz.prog 46 #[.agg #[.string d.site, .int .i64 1, .int .i64 d.at_, .int .i64 d.kind, .string d.id, .string d.fld, .string d.val, .int .i64 d.from_, .int .i64 d.to_, .string d.osite, .int .i64 d.ono, .string d.sum], .string ⟨#[]⟩] w2 fun e w' => e = .returned (.string (sumD ⟨#[]⟩ (d.noS 1))) ∧ Below w2.heap.size w2 w') := sum_any ⟨#[]⟩ (d.noS 1) w2 HSM.out (by decide) (HPW.out _ HB2.out).1 (HPW.out _ HB2.out).2
  go_wp2_with fail
  refine HSU.out.mono ?_
  rintro e w3 ⟨rfl, hb3⟩
  have HD3 := Lib.hid (HD2.out.keep hb3)
  have HB3 := Lib.hid (HB2.out.trans (hb3.mono HB2.out.size))
  clear hb3 HSU HD2 HB2 a0 a1 a2 a3 a4 a5 a6 a7 a8 a9 a10 a11
  obtain ⟨nd, hnd⟩ : ∃ nd, nd = (d.noS 1).sumS (sumD ⟨#[]⟩ (d.noS 1)) := ⟨_, rfl⟩
  have HD4 : Hid (DeedAt (w3.setCell ⟨P, 11, none⟩ (.string (sumD ⟨#[]⟩ (d.noS 1)))) P nd) := by
    show DeedAt _ _ _
    rw [hnd]
    exact HD3.out.sum _
  have HB4 : Hid (Below w.heap.size w (w3.setCell ⟨P, 11, none⟩ (.string (sumD ⟨#[]⟩ (d.noS 1))))) := HB3.out.setCell HPL.out _
  obtain ⟨a0, a1, a2, a3, a4, a5, a6, a7, a8, a9, a10, a11⟩ := HD3.out.c
  obtain ⟨z0, z1, z2, z3, z4, z5, z6, z7, z8, z9, z10, z11⟩ := HD3.out.f
  go_upto_region 4 with (fail)
  clear a0 a1 a2 a3 a4 a5 a6 a7 a8 a9 a10 a11 z0 z1 z2 z3 z4 z5 z6 z7 z8 z9 z10 z11 HD3 HB3 hnd
  generalize w3.setCell ⟨P, 11, none⟩ (.string (sumD ⟨#[]⟩ (d.noS 1))) = w4 at *
  obtain ⟨a0, a1, a2, a3, a4, a5, a6, a7, a8, a9, a10, a11⟩ := HD4.out.c
  go_wp2_with fail
  refine (search_nil _ _ _).mono ?_
  rintro e w5 ⟨⟨b, rfl⟩, hb5⟩
  have HD5 := Lib.hid (HD4.out.keep hb5)
  have HB5 := Lib.hid (HB4.out.trans (hb5.mono HB4.out.size))
  clear hb5 HD4 HB4 a0 a1 a2 a3 a4 a5 a6 a7 a8 a9 a10 a11
  go_upto_region 5 with (fail)
  obtain ⟨a0, a1, a2, a3, a4, a5, a6, a7, a8, a9, a10, a11⟩ := HD5.out.c
  have hz0 := HD5.out.lt
  have HKC : Hid (∀ wx, Below w5.heap.size w5 wx → wx.cell? ⟨P, 0, none⟩ = some (.string nd.site) ∧ wx.cell? ⟨P, 1, none⟩ = some (.int .i64 nd.no) ∧ wx.cell? ⟨P, 2, none⟩ = some (.int .i64 nd.at_) ∧ wx.cell? ⟨P, 3, none⟩ = some (.int .i64 nd.kind) ∧ wx.cell? ⟨P, 4, none⟩ = some (.string nd.id) ∧ wx.cell? ⟨P, 5, none⟩ = some (.string nd.fld) ∧ wx.cell? ⟨P, 6, none⟩ = some (.string nd.val) ∧ wx.cell? ⟨P, 7, none⟩ = some (.int .i64 nd.from_) ∧ wx.cell? ⟨P, 8, none⟩ = some (.int .i64 nd.to_) ∧ wx.cell? ⟨P, 9, none⟩ = some (.string nd.osite) ∧ wx.cell? ⟨P, 10, none⟩ = some (.int .i64 nd.ono) ∧ wx.cell? ⟨P, 11, none⟩ = some (.string nd.sum)) := fun wx hx => (HD5.out.keep hx).c
  go_region_held3 (fun w' => w'.cell? ⟨P, 0, none⟩ = some (.string nd.site) ∧ w'.cell? ⟨P, 1, none⟩ = some (.int .i64 nd.no) ∧ w'.cell? ⟨P, 2, none⟩ = some (.int .i64 nd.at_) ∧ w'.cell? ⟨P, 3, none⟩ = some (.int .i64 nd.kind) ∧ w'.cell? ⟨P, 4, none⟩ = some (.string nd.id) ∧ w'.cell? ⟨P, 5, none⟩ = some (.string nd.fld) ∧ w'.cell? ⟨P, 6, none⟩ = some (.string nd.val) ∧ w'.cell? ⟨P, 7, none⟩ = some (.int .i64 nd.from_) ∧ w'.cell? ⟨P, 8, none⟩ = some (.int .i64 nd.to_) ∧ w'.cell? ⟨P, 9, none⟩ = some (.string nd.osite) ∧ w'.cell? ⟨P, 10, none⟩ = some (.int .i64 nd.ono) ∧ w'.cell? ⟨P, 11, none⟩ = some (.string nd.sum))
    (first | (with_reducible assumption) | go_keep)
    (first
      | (go_at_call 95; (with_reducible refine Calls.mono (cloneD_any none 0 0 [] _ (nilAt _) (by omega)) ?_); rintro e wx ⟨vx, rfl, hownx, hbx⟩; have hx0 : Below w5.heap.size w5 wx := (by first | exact hbx | exact below_drw hbx | exact below_alo hbx | exact below_drw (below_alo hbx)); obtain ⟨k0, k1, k2, k3, k4, k5, k6, k7, k8, k9, k10, k11⟩ := HKC.out wx hx0; have HOX : Hid (Owns DeedE wx w5.heap.size vx []) := hownx.base_ (by simp))
      | (go_at_call 94; (with_reducible refine Calls.mono (insert_nil vx w5.heap.size _ nd _ ?_ ?_ ?_) ?_); (first | exact HOX.out | exact World.ownsRow.alloc HOX.out _); (first | exact one_elem (E := DeedE) wx nd | exact ElemsAt.keep (one_elem (E := DeedE) w5.drew nd) hbx | exact ElemsAt.keep (one_elem (E := DeedE) w5 nd) hbx); (first | exact hx0.size | (have h1 := hx0.size; simp; omega)); rintro e w6 ⟨⟨A6, c6, rfl⟩, hgrow6⟩; have hx6 : Below w5.heap.size w5 w6 := (by first | exact hx0.grown hgrow6 hx0.size (fun i e => (HOX.out.lt i e).1) | exact (hx0.alloc hx0.size _).grown hgrow6 (hx0.alloc hx0.size _).size (fun i e => (HOX.out.lt i e).1)); obtain ⟨j0, j1, j2, j3, j4, j5, j6, j7, j8, j9, j10, j11⟩ := HKC.out w6 hx6; have FIN := Lib.hid (HB5.out.trans (hx6.mono HB5.out.size))))
  all_goals
    go_wp2_with fail
    go_ret
    exact ⟨⟨_, _, rfl⟩, FIN.out⟩
theorem matD_good : GoodD matD := by
  constructor
  · decide
  · decide
  · rw [if_neg (by decide)]; decide
  · rw [if_neg (by decide)]; rfl
  · rw [if_neg (by decide), if_pos (by decide)]; decide
  · rw [if_neg (by decide)]; decide
  · intro _; exact ⟨rfl, rfl⟩
def AddNilPost (w : World) (e : Ending) (w' : World) : Prop := (∃ A c, e = .returned (.tuple #[.slice A 1 c, .int .i64 0])) ∧ Below w.heap.size w w'
set_option maxHeartbeats 3200000 in
set_option maxRecDepth 100000 in
theorem add_mat (w : World) (hT : Tabs w) (hM : MaxAt w) (hP : PowAt w) (hS : StandAt w) :
    Calls Tryz.prog 20 #[.slice none 0 0, .string ⟨#[97]⟩, .int .i64 5, .int .i64 2, .string ⟨#[120]⟩, .string ⟨#[]⟩, .string ⟨#[104, 111, 116]⟩, .agg #[.int .i64 0, .int .i64 0]] w (AddNilPost w) := by
  have HTT : Hid (∀ wx, Below w.heap.size w wx → Tabs wx ∧ MaxAt wx ∧ PowAt wx ∧ StandAt wx) := fun wx hx => ⟨hT.below hx, MaxAt.below hM hx, hP.below hx, hS.below hx⟩
  have hal : Below w.heap.size w (w.alloc (.cells #[.int .i64 0, .int .i64 0] 38)) := (Below.refl _ _).alloc (Nat.le_refl _) _
  have hz1 : (w.alloc (.cells #[.int .i64 0, .int .i64 0] 38)).heap.size = w.heap.size + 1 := by simp
  have HD1 : Hid (DeedAt ((w.alloc (.cells #[.int .i64 0, .int .i64 0] 38)).alloc (.cells #[.string ⟨#[97]⟩, .int .i64 0, .int .i64 5, .int .i64 2, .string ⟨#[120]⟩, .string ⟨#[]⟩, .string ⟨#[104, 111, 116]⟩, .int .i64 0, .int .i64 0, .string ⟨#[]⟩, .int .i64 0, .string ⟨#[]⟩] 40)) (w.alloc (.cells #[.int .i64 0, .int .i64 0] 38)).heap.size matD) := heap_alloc_new _ _
  have HB1 : Hid (Below w.heap.size w ((w.alloc (.cells #[.int .i64 0, .int .i64 0] 38)).alloc (.cells #[.string ⟨#[97]⟩, .int .i64 0, .int .i64 5, .int .i64 2, .string ⟨#[120]⟩, .string ⟨#[]⟩, .string ⟨#[104, 111, 116]⟩, .int .i64 0, .int .i64 0, .string ⟨#[]⟩, .int .i64 0, .string ⟨#[]⟩] 40))) := hal.alloc hal.size _
  rw [hz1] at HD1
  have HIN := Lib.hid (fun wx => in_still 2 1 6 wx)
  rw [inB_in _ _ _ (by decide) (by decide)] at HIN
  clear hal hT hM hP hS hz1
  go_enter Tryz.func20, Tryz.ntmps20
  go_upto_region 2 with (fail)
  obtain ⟨P, hP⟩ : ∃ P, P = w.heap.size + 1 := ⟨_, rfl⟩
  rw [← hP] at HD1 ⊢
  generalize (w.alloc (.cells #[.int .i64 0, .int .i64 0] 38)).alloc (.cells #[.string ⟨#[97]⟩, .int .i64 0, .int .i64 5, .int .i64 2, .string ⟨#[120]⟩, .string ⟨#[]⟩, .string ⟨#[104, 111, 116]⟩, .int .i64 0, .int .i64 0, .string ⟨#[]⟩, .int .i64 0, .string ⟨#[]⟩] 40) = w1 at *
  clear hP
  go_wp2_with fail
  refine (HIN.out _).mono ?_
  rintro e wz ⟨rfl, hwz⟩
  obtain rfl := hwz.symm
  go_upto_region 3 with (fail)
  have HW0 : Hid (∀ wx, Below w1.heap.size w1 wx → Below w.heap.size w wx) := fun wx hx => HB1.out.trans (hx.mono HB1.out.size)
  have HHELD : Hid (∀ w', Below w1.heap.size w1 w' → w'.cell? ⟨P, 0, none⟩ = some (.string ⟨#[97]⟩) ∧ w'.cell? ⟨P, 1, none⟩ = some (.int .i64 0) ∧ w'.cell? ⟨P, 2, none⟩ = some (.int .i64 5) ∧ w'.cell? ⟨P, 3, none⟩ = some (.int .i64 2) ∧ w'.cell? ⟨P, 4, none⟩ = some (.string ⟨#[120]⟩) ∧ w'.cell? ⟨P, 5, none⟩ = some (.string ⟨#[]⟩) ∧ w'.cell? ⟨P, 6, none⟩ = some (.string ⟨#[104, 111, 116]⟩) ∧ w'.cell? ⟨P, 7, none⟩ = some (.int .i64 0) ∧ w'.cell? ⟨P, 8, none⟩ = some (.int .i64 0) ∧ w'.cell? ⟨P, 9, none⟩ = some (.string ⟨#[]⟩) ∧ w'.cell? ⟨P, 10, none⟩ = some (.int .i64 0) ∧ w'.cell? ⟨P, 11, none⟩ = some (.string ⟨#[]⟩) ∧ Below w1.heap.size w1 w') := fun w' hb => by
    obtain ⟨a0, a1, a2, a3, a4, a5, a6, a7, a8, a9, a10, a11⟩ := (HD1.out.keep hb).c
    exact ⟨a0, a1, a2, a3, a4, a5, a6, a7, a8, a9, a10, a11, hb⟩
  have HSE : Hid (∀ wx, Below w1.heap.size w1 wx → Calls Tryz.prog 54 #[.slice none 0 0, .string ⟨#[97]⟩, .int .i64 5] wx fun e w' => e = .returned (.int .i64 0) ∧ Below w1.heap.size w1 w') := fun wx hx => by
    have ht := HTT.out wx (HW0.out wx hx)
    exact (siteError_ok none 0 0 ⟨#[97]⟩ 5 wx (by omega) (by decide) (by decide) (listError_ok none 0 0 wx (checkDeeds_ok none 0 0 [] wx (nilAt wx) RightD.nil ht.1 ht.2.1 ht.2.2.1 ht.2.2.2))).mono fun e w' k => ⟨k.1, hx.trans (k.2.mono hx.size)⟩
  have HFE : Hid (∀ wx, Below w1.heap.size w1 wx → Calls Tryz.prog 45 #[.agg #[.string ⟨#[97]⟩, .int .i64 0, .int .i64 5, .int .i64 2, .string ⟨#[120]⟩, .string ⟨#[]⟩, .string ⟨#[104, 111, 116]⟩, .int .i64 0, .int .i64 0, .string ⟨#[]⟩, .int .i64 0, .string ⟨#[]⟩]] wx fun e w' => e = .returned (.int .i64 0) ∧ Below w1.heap.size w1 w') := fun wx hx => by
    have ht := HTT.out wx (HW0.out wx hx)
    exact (formError_ok matD wx matD_good ht.1 ht.2.1).mono fun e w' k => ⟨k.1, hx.trans (k.2.mono hx.size)⟩
  obtain ⟨a0, a1, a2, a3, a4, a5, a6, a7, a8, a9, a10, a11, -⟩ := HHELD.out w1 (Below.refl _ _)
  go_cut [20] (fun v wx => v = .int .i64 0 ∧ Hid (Below w1.heap.size w1 wx))
  case first =>
    go_region_held3 (fun w' => w'.cell? ⟨P, 0, none⟩ = some (.string ⟨#[97]⟩) ∧ w'.cell? ⟨P, 1, none⟩ = some (.int .i64 0) ∧ w'.cell? ⟨P, 2, none⟩ = some (.int .i64 5) ∧ w'.cell? ⟨P, 3, none⟩ = some (.int .i64 2) ∧ w'.cell? ⟨P, 4, none⟩ = some (.string ⟨#[120]⟩) ∧ w'.cell? ⟨P, 5, none⟩ = some (.string ⟨#[]⟩) ∧ w'.cell? ⟨P, 6, none⟩ = some (.string ⟨#[104, 111, 116]⟩) ∧ w'.cell? ⟨P, 7, none⟩ = some (.int .i64 0) ∧ w'.cell? ⟨P, 8, none⟩ = some (.int .i64 0) ∧ w'.cell? ⟨P, 9, none⟩ = some (.string ⟨#[]⟩) ∧ w'.cell? ⟨P, 10, none⟩ = some (.int .i64 0) ∧ w'.cell? ⟨P, 11, none⟩ = some (.string ⟨#[]⟩) ∧ Below w1.heap.size w1 w')
      (first | assumption | exact HHELD.out _ ((Below.refl _ _).drew) | exact HHELD.out _ hbx | exact HHELD.out _ (Below.refl _ _) | exact HHELD.out _ (hbx.alloc hbx.size _))
      (first
        | (go_at_call 54; (with_reducible refine Calls.mono (HSE.out _ ?_) ?_); (first | exact (Below.refl _ _).drew | exact hbx); rintro e wx ⟨rfl, hbx⟩)
        | (go_at_call 39; (with_reducible refine Calls.mono (when_none _ _) ?_); rintro e wz ⟨rfl, hwz⟩; obtain rfl := hwz.symm)
        | (go_at_call 45; (with_reducible refine Calls.mono (HFE.out _ hbx) ?_); rintro e wx ⟨rfl, hbx⟩)
        | (go_at_call 37; (refine Calls.mono (first_3z _ _ rfl _) ?_); rintro e wz ⟨rfl, hwz⟩; obtain rfl := hwz.symm))
    all_goals
      go_wp2_with fail
      go_meet
      exact ⟨rfl, by first | exact hbx | exact hbx.alloc hbx.size _⟩
  case rest =>
    obtain ⟨rfl, HB2⟩ := hcut
    clear a0 a1 a2 a3 a4 a5 a6 a7 a8 a9 a10 a11 HSE HFE
    obtain ⟨a0, a1, a2, a3, a4, a5, a6, a7, a8, a9, a10, a11, -⟩ := HHELD.out wc HB2.out
    have HAD : Hid (Calls Tryz.prog 55 #[.slice none 0 0, .agg #[.string ⟨#[97]⟩, .int .i64 0, .int .i64 5, .int .i64 2, .string ⟨#[120]⟩, .string ⟨#[]⟩, .string ⟨#[104, 111, 116]⟩, .int .i64 0, .int .i64 0, .string ⟨#[]⟩, .int .i64 0, .string ⟨#[]⟩]] wc (OneDPost wc)) := added_nil matD wc matD_small (HTT.out wc (HW0.out wc HB2.out)).2.2.1 (HTT.out wc (HW0.out wc HB2.out)).2.2.2
    go_wp2_with fail
    refine HAD.out.mono ?_
    rintro e w3 ⟨⟨A3, c3, rfl⟩, hb3⟩
    have HB3 := Lib.hid (HW0.out w3 (HB2.out.trans (hb3.mono HB2.out.size)))
    clear hb3 HAD
    go_wp2_with fail
    go_ret2
    exact ⟨⟨_, _, rfl⟩, HB3.out⟩
set_option maxHeartbeats 1600000 in
set_option maxRecDepth 100000 in
theorem matters_any (w : World) (hT : Tabs w) (hM : MaxAt w) (hP : PowAt w) (hS : StandAt w) : Calls Tryz.prog 14 #[] w fun e w' => e = .returned (.bool true) ∧ Below w.heap.size w w' := by
  have HA := Lib.hid (add_mat w hT hM hP hS)
  clear hT hM hP hS
  go_enter Tryz.func14, Tryz.ntmps14
  go_wp2_with fail
  refine HA.out.mono ?_
  rintro e w1 ⟨⟨A1, c1, rfl⟩, hb1⟩
  have HB1 := Lib.hid hb1
  clear hb1 HA
  go_wp2_with fail
  go_ret
  exact ⟨rfl, HB1.out⟩
end Go.Proofs.YthogkcgklakibaaGreatDoor
