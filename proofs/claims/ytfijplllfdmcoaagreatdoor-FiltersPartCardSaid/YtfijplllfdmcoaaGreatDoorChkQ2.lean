
/-
  What the inner check of a search says of 'a and b', and what Parse returns.
-/
import Derived.Test.YtfijplllfdmcoaaGreatDoorChkQ
import Derived.Deep.RegionHeld3
import Derived.Deep.DrawnRows
namespace Go.Proofs.YtfijplllfdmcoaaGreatDoor
open Go.RowKit

set_option maxHeartbeats 3200000 in
set_option maxRecDepth 100000 in
theorem inner_word (A : Option Addr) (c : UInt8) (w : World) (h1 : 97 ≤ c.toNat) (h2 : c.toNat ≤ 122) (hS : StrsAt w A 1 1 [[c]]) :
    Calls Tryz.prog 146 #[leafQ A, .bool false] w fun e w' => e = .returned (.int .i64 0) ∧ Below w.heap.size w w' := by
  have HIP := Lib.hid (fun w => isPattern_any ⟨#[c]⟩ w (show 1 ≤ 1 by omega) (show 1 ≤ 40 by omega) (fun j hj => by
    have hj0 : j = 0 := by have : (⟨#[c]⟩ : ByteArray).size = 1 := rfl; omega
    subst hj0
    exact ⟨h1, h2⟩))
  have hi : inB 1 1 1 = true := rfl
  have hi0 : inB 0 0 0 = true := rfl
  have HS := Lib.hid hS; clear hS
  go_enter Tryz.func146, Tryz.ntmps146
  go_wp2_with fail
  have hq := heap_alloc_new w (.cells #[.int .i64 2, .slice A 1 1, .int .i64 0, .slice none 0 0] 94)
  have HS1 := Lib.hid (HS.out.keep ((Below.refl _ w).alloc (Nat.le_refl _) (.cells #[.int .i64 2, .slice A 1 1, .int .i64 0, .slice none 0 0] 94)))
  have hB1 : Below w.heap.size w (w.alloc (.cells #[.int .i64 2, .slice A 1 1, .int .i64 0, .slice none 0 0] 94)) := (Below.refl _ _).alloc (Nat.le_refl _) _
  generalize w.alloc (.cells #[.int .i64 2, .slice A 1 1, .int .i64 0, .slice none 0 0] 94) = w1 at *
  refine (uses_word w1).mono ?_
  rintro e w2 ⟨rfl, hb⟩
  have HQ2 := Lib.hid ((hb.block _ (Array.getElem?_eq_some_iff.1 hq).1).trans hq)
  have HS2 := Lib.hid (HS1.out.keep hb)
  have hB2 := below_trans' hB1 hb
  obtain ⟨d0, d1, d2, d3, e0, e1, e2, e3, hd⟩ := four_cells HQ2.out
  clear hq hb HS1 hB1 HS
  go_wp2_with fail
  refine (in_any 1 1 1 _).mono ?_
  rintro e w3 ⟨rfl, hw3⟩
  subst hw3
  rw [hi]
  go_wp2_with fail
  refine (in_any 0 0 0 _).mono ?_
  rintro e w3 ⟨rfl, hw3⟩
  subst hw3
  rw [hi0]
  have hbb : Below w2.heap.size w2 ((w2.alloc (.cells #[.int .i64 1, .int .i64 1] 246)).alloc (.cells #[.int .i64 0, .int .i64 0] 246)) := ((Below.refl _ _).alloc (Nat.le_refl _) _).alloc (by simp) _
  have HQ3 := Lib.hid ((hbb.block _ hd).trans HQ2.out)
  have HS3 := Lib.hid (HS2.out.keep hbb)
  have hB3 := below_trans' hB2 hbb
  clear d0 d1 d2 d3 e0 e1 e2 e3 hd HQ2 HS2 hbb
  generalize (w2.alloc (.cells #[.int .i64 1, .int .i64 1] 246)).alloc (.cells #[.int .i64 0, .int .i64 0] 246) = w3 at *
  obtain ⟨d0, d1, d2, d3, e0, e1, e2, e3, hd⟩ := four_cells HQ3.out
  obtain ⟨gs, os, rfl, hgs, hcs⟩ := HS3.out.str (by omega)
  have hc0 : w3.cell? ⟨gs, os, none⟩ = some (.string ⟨#[c]⟩) := hcs 0 (by omega)
  clear hcs e0 e1 e2 e3
  go_wp2_with fail
  refine wp_loop_rounds 2 ?_
  rw [rounds_succ]
  go_wp2_with fail
  refine (HIP.out _).mono ?_
  rintro e w4 ⟨rfl, hw4⟩
  obtain rfl := hw4.symm
  go_wp2_with fail
  refine (reserved_word c w3).mono ?_
  rintro e w4 ⟨rfl, hw4⟩
  obtain rfl := hw4
  go_wp2_with fail
  rw [rounds_succ]
  go_wp2_with fail
  refine (nears_any 2 _ _ (some ⟨gs, os, none⟩) 1 1 none 0 0 w3 rfl rfl rfl rfl).mono ?_
  rintro e w4 ⟨rfl, hb4⟩
  have HQ4 := Lib.hid ((hb4.block _ hd).trans HQ3.out)
  have hB4 := below_trans' hB3 hb4
  clear d0 d1 d2 d3 hd hc0 HQ3 hb4
  obtain ⟨d0, d1, d2, d3, e0, e1, e2, e3, hd⟩ := four_cells HQ4.out
  go_wp2_with fail
  refine wp_loop_rounds 1 ?_
  rw [rounds_succ]
  go_wp2_with fail
  go_ret
  exact ⟨rfl, hB4⟩
theorem below_undr {w w' : World} (h : Below w.drew.heap.size w.drew w') : Below w.heap.size w w' := ⟨h.os, h.tape, h.output, h.size, h.block⟩
attribute [local go_sem ↓] Go.wp_at_zero Go.wp_at_succ
set_option maxHeartbeats 3200000 in
set_option maxRecDepth 100000 in
theorem inner_and (Q A B : Option Addr) (c : Nat) (w : World) (hQ : ElemsAt QryE w Q 2 c [leafR A, leafR B]) (hA : StrsAt w A 1 1 [[97]]) (hBs : StrsAt w B 1 1 [[98]]) :
    Calls Tryz.prog 146 #[andQ Q c, .bool false] w fun e w' => e = .returned (.int .i64 0) ∧ Below w.heap.size w w' := by
  have hi : inB 0 0 0 = true := rfl
  have hi0 : inB 2 2 100 = true := rfl
  obtain ⟨gq, oq, rfl, hgq, hcq⟩ := hQ.2.2.2 (by omega)
  have HCQ : Hid (∀ k, k < 2 → ∃ X ch, 97 ≤ ch.toNat ∧ ch.toNat ≤ 122 ∧ StrsAt w X 1 1 [[ch]] ∧ w.cell? ⟨gq, oq + k * 4, none⟩ = some (.int .i64 2) ∧ w.cell? ⟨gq, oq + k * 4 + 1, none⟩ = some (.slice X 1 1) ∧ w.cell? ⟨gq, oq + k * 4 + 2, none⟩ = some (.int .i64 0) ∧ w.cell? ⟨gq, oq + k * 4 + 3, none⟩ = some (.slice none 0 0)) := fun k hk => by
    match k, hk with
    | 0, _ => exact ⟨A, 97, by decide, by decide, hA, hcq 0 (leafR A) 0 _ rfl rfl, hcq 0 (leafR A) 1 _ rfl rfl, hcq 0 (leafR A) 2 _ rfl rfl, hcq 0 (leafR A) 3 _ rfl rfl⟩
    | 1, _ => exact ⟨B, 98, by decide, by decide, hBs, hcq 1 (leafR B) 0 _ rfl rfl, hcq 1 (leafR B) 1 _ rfl rfl, hcq 1 (leafR B) 2 _ rfl rfl, hcq 1 (leafR B) 3 _ rfl rfl⟩
  clear hQ hA hBs hcq
  go_enter Tryz.func146, Tryz.ntmps146
  go_wp2_with fail
  have hq := heap_alloc_new w (.cells #[.int .i64 6, .slice none 0 0, .int .i64 0, .slice (some ⟨gq, oq, none⟩) 2 c] 94)
  have hB1 : Below w.heap.size w (w.alloc (.cells #[.int .i64 6, .slice none 0 0, .int .i64 0, .slice (some ⟨gq, oq, none⟩) 2 c] 94)) := (Below.refl _ _).alloc (Nat.le_refl _) _
  generalize w.alloc (.cells #[.int .i64 6, .slice none 0 0, .int .i64 0, .slice (some ⟨gq, oq, none⟩) 2 c] 94) = w1 at *
  refine (uses_and w1).mono ?_
  rintro e w2 ⟨rfl, hb⟩
  have HQ2 := Lib.hid ((hb.block _ (Array.getElem?_eq_some_iff.1 hq).1).trans hq)
  have hB2 := below_trans' hB1 hb
  obtain ⟨d0, d1, d2, d3, e0, e1, e2, e3, hd⟩ := four_cells HQ2.out
  clear hq hb hB1
  go_wp2_with fail
  refine (in_any 0 0 0 _).mono ?_
  rintro e w3 ⟨rfl, hw3⟩
  subst hw3
  rw [hi]
  go_wp2_with fail
  refine (in_any 2 2 100 _).mono ?_
  rintro e w3 ⟨rfl, hw3⟩
  subst hw3
  rw [hi0]
  have hbb : Below w2.heap.size w2 ((w2.alloc (.cells #[.int .i64 0, .int .i64 0] 246)).alloc (.cells #[.int .i64 2, .int .i64 100] 246)) := ((Below.refl _ _).alloc (Nat.le_refl _) _).alloc (by simp) _
  have HQ3 := Lib.hid ((hbb.block _ hd).trans HQ2.out)
  have hB3 := below_trans' hB2 hbb
  clear d0 d1 d2 d3 e0 e1 e2 e3 hd HQ2 hbb
  generalize (w2.alloc (.cells #[.int .i64 0, .int .i64 0] 246)).alloc (.cells #[.int .i64 2, .int .i64 100] 246) = w3 at *
  obtain ⟨d0, d1, d2, d3, e0, e1, e2, e3, hd⟩ := four_cells HQ3.out
  clear e0 e1 e2 e3
  go_wp2_with fail
  refine wp_loop_rounds 1 ?_
  rw [rounds_succ]
  go_wp2_with fail
  refine (nears_any 6 _ _ none 0 0 (some ⟨gq, oq, none⟩) 2 c w3 rfl rfl rfl rfl).mono ?_
  rintro e w4 ⟨rfl, hb4⟩
  have HQ4 := Lib.hid ((hb4.block _ hd).trans HQ3.out)
  have hB4 := below_trans' hB3 hb4
  clear d0 d1 d2 d3 hd HQ3 hb4
  obtain ⟨d0, d1, d2, d3, e0, e1, e2, e3, hd⟩ := four_cells HQ4.out
  clear e0 e1 e2 e3
  go_wp2_with fail
  clear d0 d1 d2 d3
  go_loopg [132] 2 (fun gk v wr => ∃ k : Nat, Hid (k + gk = 2) ∧ v = .int .i64 k ∧ Hid (wr.heap[w.heap.size]? = some (.cells #[.int .i64 6, .slice none 0 0, .int .i64 0, .slice (some ⟨gq, oq, none⟩) 2 c] 94 (0, 0))) ∧ Below w.heap.size w wr)
  case atStart => exact ⟨0, show 0 + 2 = 2 by omega, rfl, HQ4, hB4⟩
  case round =>
    obtain ⟨k, HK, rfl, HQR, hb⟩ := hrel
    clear HQ4 hB4 hB2 hB3
    have hkn : k ≤ 2 := by have := HK.out; omega
    by_cases hlt : k < 2
    · obtain ⟨X, ch, l1, l2, hX, x0, x1, x2, x3⟩ := HCQ.out k hlt
      have y0 := (hb.cell (p := ⟨gq, oq + k * 4, none⟩) hgq).trans x0
      have y1 := (hb.cell (p := ⟨gq, oq + k * 4 + 1, none⟩) hgq).trans x1
      have y2 := (hb.cell (p := ⟨gq, oq + k * 4 + 2, none⟩) hgq).trans x2
      have y3 := (hb.cell (p := ⟨gq, oq + k * 4 + 3, none⟩) hgq).trans x3
      have HX := Lib.hid hX
      have hlti : (k : Int) < 2 := by omega
      clear x0 x1 x2 x3 hX
      go_upto_region 21 with (fail)
      have hxb := heap_alloc_new wr (.cells #[.int .i64 2, .slice X 1 1, .int .i64 0, .slice none 0 0] 94)
      have hbx := hb.alloc hb.size (.cells #[.int .i64 2, .slice X 1 1, .int .i64 0, .slice none 0 0] 94)
      have hrl := (Array.getElem?_eq_some_iff.1 HQR.out).1
      have HQX := Lib.hid ((Below.heap_alloc wr (.cells #[.int .i64 2, .slice X 1 1, .int .i64 0, .slice none 0 0] 94) w.heap.size hrl).trans HQR.out)
      have HXB := Lib.hid hxb
      obtain ⟨P, hP⟩ : ∃ P, P = wr.heap.size := ⟨_, rfl⟩
      rw [← hP] at HXB hrl ⊢
      clear y0 y1 y2 y3 hxb hP HQR hb
      generalize wr.alloc (.cells #[.int .i64 2, .slice X 1 1, .int .i64 0, .slice none 0 0] 94) = w5 at *
      have hnr := fun w => nears_any 6 _ _ none 0 0 (some ⟨gq, oq, none⟩) 2 c w rfl rfl rfl rfl
      have hP5 : P < w5.heap.size := (Array.getElem?_eq_some_iff.1 HXB.out).1
      obtain ⟨a0, a1, a2, a3, _⟩ := four_cells HXB.out
      obtain ⟨b0, b1, b2, b3, _⟩ := four_cells HQX.out
      go_cut [13] (fun v wx => v = .int .i64 0 ∧ Hid (Below w5.heap.size w5 wx))
      case first =>
        refine wp_region_held_drew (S := fun w' => w'.cell? ⟨P, 0, none⟩ = some (.int .i64 2) ∧ w'.cell? ⟨P, 1, none⟩ = some (.slice X 1 1) ∧ w'.cell? ⟨P, 2, none⟩ = some (.int .i64 0) ∧ w'.cell? ⟨P, 3, none⟩ = some (.slice none 0 0) ∧ w'.cell? ⟨w.heap.size, 0, none⟩ = some (.int .i64 6) ∧ w'.cell? ⟨w.heap.size, 1, none⟩ = some (.slice none 0 0) ∧ w'.cell? ⟨w.heap.size, 2, none⟩ = some (.int .i64 0) ∧ w'.cell? ⟨w.heap.size, 3, none⟩ = some (.slice (some ⟨gq, oq, none⟩) 2 c)) (by kernel_rfl) ⟨a0, a1, a2, a3, b0, b1, b2, b3⟩ (fun hHeld => ?_)
        refine wpAnyH_take (i := 0) (oi := ⟨some 136, _, _, _, _, _⟩) (v := leafQ X) rfl (by kernel_rfl) (by kernel_rfl) (by kernel_rfl) (fun _ _ _ h => h) (Or.inl ⟨by rfl, ?_⟩) hHeld ?_
        · intro w hSw
          (try dsimp only at hSw)
          go_simp
        simp only [Act.put, List.setIfInBounds_toArray, List.set_cons_zero, List.set_cons_succ]
        refine wpAnyH_take (i := 1) (oi := ⟨some 137, _, _, _, _, _⟩) (v := andQ (some ⟨gq, oq, none⟩) c) rfl (by kernel_rfl) (by kernel_rfl) (by kernel_rfl) (fun _ _ _ h => h) (Or.inl ⟨by rfl, ?_⟩) hHeld ?_
        · intro w hSw
          (try dsimp only at hSw)
          go_simp
        simp only [Act.put, List.setIfInBounds_toArray, List.set_cons_zero, List.set_cons_succ]
        refine wpAnyH_ready (rs := [2]) (by kernel_rfl) (by simp) ?_
        refine AllReadyH.cons (o := ⟨some 138, _, _, _, _, _⟩) rfl (fun K hK => ?_) AllReadyH.nil
        rw [if_pos (by rfl)]
        go_wp2_with fail
        refine Calls.mono (hnr _) ?_
        rintro e w6 ⟨rfl, hb6⟩
        have hb6' : Below w5.heap.size w5 w6 := below_undr hb6
        have g0 := four_cells ((hb6'.block P hP5).trans HXB.out)
        have g1 := four_cells ((hb6'.block w.heap.size (by omega)).trans HQX.out)
        clear hHeld
        refine hK.out _ _ ⟨g0.1, g0.2.1, g0.2.2.1, g0.2.2.2.1, g1.1, g1.2.1, g1.2.2.1, g1.2.2.2.1⟩ (fun hHeld => ?_)
        clear hK
        (try simp only [Act.put, List.setIfInBounds_toArray, List.set_cons_zero, List.set_cons_succ])
        refine wpAnyH_take (i := 3) (oi := ⟨some 139, _, _, _, _, _⟩) (v := .bool false) rfl (by kernel_rfl) (by kernel_rfl) (by kernel_rfl) (fun _ _ _ h => h) (Or.inl ⟨by rfl, ?_⟩) hHeld ?_
        · intro w hSw
          (try dsimp only at hSw)
          go_simp
        simp only [Act.put, List.setIfInBounds_toArray, List.set_cons_zero, List.set_cons_succ]
        refine wpAnyH_take (i := 4) (oi := ⟨some 140, _, _, _, _, _⟩) (v := .bool false) rfl (by kernel_rfl) (by kernel_rfl) (by kernel_rfl) (fun _ _ _ h => h) (Or.inl ⟨by rfl, ?_⟩) hHeld ?_
        · intro w hSw
          (try dsimp only at hSw)
          go_simp
        simp only [Act.put, List.setIfInBounds_toArray, List.set_cons_zero, List.set_cons_succ]
        refine wpAnyH_take (i := 5) (oi := ⟨some 141, _, _, _, _, _⟩) (v := .bool false) rfl (by kernel_rfl) (by kernel_rfl) (by kernel_rfl) (fun _ _ _ h => h) (Or.inl ⟨by rfl, ?_⟩) hHeld ?_
        · intro w hSw
          (try dsimp only at hSw)
          go_simp
        simp only [Act.put, List.setIfInBounds_toArray, List.set_cons_zero, List.set_cons_succ]
        refine wpAnyH_take (i := 6) (oi := ⟨some 142, _, _, _, _, _⟩) (v := undef) rfl (by kernel_rfl) (by kernel_rfl) (by kernel_rfl) (fun _ _ _ h => h) (Or.inr ⟨by rfl, rfl⟩) hHeld ?_
        simp only [Act.put, List.setIfInBounds_toArray, List.set_cons_zero, List.set_cons_succ]
        refine wpAnyH_take (i := 7) (oi := ⟨some 143, _, _, _, _, _⟩) (v := undef) rfl (by kernel_rfl) (by kernel_rfl) (by kernel_rfl) (fun _ _ _ h => h) (Or.inr ⟨by rfl, rfl⟩) hHeld ?_
        simp only [Act.put, List.setIfInBounds_toArray, List.set_cons_zero, List.set_cons_succ]
        refine wpAnyH_take (i := 8) (oi := ⟨some 144, _, _, _, _, _⟩) (v := undef) rfl (by kernel_rfl) (by kernel_rfl) (by kernel_rfl) (fun _ _ _ h => h) (Or.inr ⟨by rfl, rfl⟩) hHeld ?_
        simp only [Act.put, List.setIfInBounds_toArray, List.set_cons_zero, List.set_cons_succ]
        refine wpAnyH_take (i := 9) (oi := ⟨some 145, _, _, _, _, _⟩) (v := .bool false) rfl (by kernel_rfl) (by kernel_rfl) (by kernel_rfl) (fun _ _ _ h => h) (Or.inl ⟨by rfl, ?_⟩) hHeld ?_
        · intro w hSw
          (try dsimp only at hSw)
          go_simp
        simp only [Act.put, List.setIfInBounds_toArray, List.set_cons_zero, List.set_cons_succ]
        refine wpAnyH_take (i := 10) (oi := ⟨some 146, _, _, _, _, _⟩) (v := .bool false) rfl (by kernel_rfl) (by kernel_rfl) (by kernel_rfl) (fun _ _ _ h => h) (Or.inl ⟨by rfl, ?_⟩) hHeld ?_
        · intro w hSw
          (try dsimp only at hSw)
          go_simp
        simp only [Act.put, List.setIfInBounds_toArray, List.set_cons_zero, List.set_cons_succ]
        refine wpAnyH_ready (rs := [11]) (by kernel_rfl) (by simp) ?_
        refine AllReadyH.cons (o := ⟨some 147, _, _, _, _, _⟩) rfl (fun K hK => ?_) AllReadyH.nil
        rw [if_pos (by rfl)]
        go_wp2_with fail
        refine Calls.mono (inner_word X ch _ l1 l2 ((HX.out.keep hbx).keep hb6')) ?_
        rintro e w7 ⟨rfl, hb7⟩
        have HB7 := Lib.hid (below_trans' hb6' hb7)
        have g0 := four_cells ((HB7.out.block P hP5).trans HXB.out)
        have g1 := four_cells ((HB7.out.block w.heap.size (by omega)).trans HQX.out)
        clear hHeld
        refine hK.out _ _ ⟨g0.1, g0.2.1, g0.2.2.1, g0.2.2.2.1, g1.1, g1.2.1, g1.2.2.1, g1.2.2.2.1⟩ (fun hHeld => ?_)
        clear hK
        (try simp only [Act.put, List.setIfInBounds_toArray, List.set_cons_zero, List.set_cons_succ])
        refine wpAnyH_take (i := 12) (oi := ⟨some 13, _, _, _, _, _⟩) (v := .int .i64 0) rfl (by kernel_rfl) (by kernel_rfl) (by kernel_rfl) (fun _ _ _ h => h) (Or.inl ⟨by rfl, ?_⟩) hHeld ?_
        · intro w hSw
          (try dsimp only at hSw)
          go_simp
        simp only [Act.put, List.setIfInBounds_toArray, List.set_cons_zero, List.set_cons_succ]
        refine wpAnyH_done (by kernel_rfl) ?_ _
        go_wp2_with fail
        go_meet
        exact ⟨rfl, HB7⟩
      case rest =>
        obtain ⟨rfl, HBW⟩ := hcut
        have HQW := Lib.hid ((HBW.out.block w.heap.size (by omega)).trans HQX.out)
        have hbw := below_trans' hbx HBW.out
        clear HBW a0 a1 a2 a3 b0 b1 b2 b3
        go_wp2_with fail
        go_roundg (gk - 1)
        case measure => have := HK.out; omega
        case rel => exact ⟨k + 1, show k + 1 + (gk - 1) = 2 by have := HK.out; omega, by go_num, HQW, hbw⟩
    · have hlti : ¬ (k : Int) < 2 := by omega
      go_wp2_with fail
      go_ret
      exact ⟨rfl, hb⟩
end Go.Proofs.YtfijplllfdmcoaaGreatDoor
