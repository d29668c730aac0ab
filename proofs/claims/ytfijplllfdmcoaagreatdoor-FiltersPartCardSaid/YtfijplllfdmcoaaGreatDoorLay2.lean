
/-
  What ReadLayout returns of one line that asks a field.
-/
import Derived.Test.YtfijplllfdmcoaaGreatDoorLay
import Derived.Deep.RegionHeld3
import Derived.Deep.DrawnRows
namespace Go.Proofs.YtfijplllfdmcoaaGreatDoor
open Go.RowKit
attribute [local go_sem ↓] Go.wp_at_zero Go.wp_at_succ

abbrev spreadL : List (List UInt8) := [[110, 111, 110, 101], [115, 97, 109, 101], [102, 97, 109, 105, 108, 121]]
theorem index_none (A : Option Addr) (w : World) (h : StrsAt w A 3 3 spreadL) : Calls Tryz.prog 63 #[.slice A 3 3, .string ⟨#[110, 111, 110, 101]⟩] w fun e w' => e = .returned (.int .i64 0) ∧ w' = w := by
  refine (index_any A 3 3 spreadL ⟨#[110, 111, 110, 101]⟩ w h (by omega)).mono ?_
  rintro e w' ⟨r, rfl, hf, rfl⟩
  refine ⟨?_, rfl⟩
  rcases hf with ⟨_, hn⟩ | ⟨k, rfl, _, hk⟩
  · exact absurd (by decide) hn
  · cases k with
    | zero => rfl
    | succ k => exact absurd rfl (hk 0 (by omega))
abbrev lineL : List (List UInt8) := [[97, 115, 107], [97], [111, 110, 101], [110, 111, 110, 101], [98]]
abbrev askQ (C : Option Addr) (d : Nat) : Value := .agg #[.string ⟨#[97]⟩, .slice C 1 d, .bool false, .int .i64 0]
def NewB (A : Option Addr) (b : Nat) : Prop := ∀ g off, A = some ⟨g, off, none⟩ → b ≤ g
def AskPost (w : World) (e : Ending) (w' : World) : Prop := ∃ C d, e = .returned (.tuple #[askQ C d, .bool true]) ∧ StrsAt w' C 1 d [[98]] ∧ NewB C w.heap.size ∧ Below w.heap.size w w'
theorem below_undr2 {w w' : World} (h : Below w.drew.heap.size w.drew w') : Below w.heap.size w w' := ⟨h.os, h.tape, h.output, h.size, h.block⟩
abbrev ask0 : Obj := .cells #[.string ⟨#[]⟩, .slice none 0 0, .bool false, .int .i64 0] 162
theorem four_c {w : World} {b : Nat} {a0 a1 a2 a3 : Value} {t : TypeId} (h : w.heap[b]? = some (.cells #[a0, a1, a2, a3] t (0, 0))) :
    w.cell? ⟨b, 0, none⟩ = some a0 ∧ w.cell? ⟨b, 1, none⟩ = some a1 ∧ w.cell? ⟨b, 2, none⟩ = some a2 ∧ w.cell? ⟨b, 3, none⟩ = some a3 ∧ w.frozen? ⟨b, 0, none⟩ = false ∧ w.frozen? ⟨b, 1, none⟩ = false ∧ w.frozen? ⟨b, 2, none⟩ = false ∧ w.frozen? ⟨b, 3, none⟩ = false ∧ b < w.heap.size := by
  refine ⟨?_, ?_, ?_, ?_, ?_, ?_, ?_, ?_, (Array.getElem?_eq_some_iff.1 h).1⟩
  · rw [cell_of_row w b _ _ _ _ h]; rfl
  · rw [cell_of_row w b _ _ _ _ h]; rfl
  · rw [cell_of_row w b _ _ _ _ h]; rfl
  · rw [cell_of_row w b _ _ _ _ h]; rfl
  all_goals simp [World.frozen?, h]
theorem blk_al {w w' : World} (h : Below (w.alloc ask0).heap.size (w.alloc ask0) w') : w'.heap[w.heap.size]? = some ask0 :=
  (h.block w.heap.size (by simp)).trans (heap_alloc_new w _)
theorem blk_ald {w w' : World} (h : Below (w.drew.alloc ask0).heap.size (w.drew.alloc ask0) w') : w'.heap[w.heap.size]? = some ask0 :=
  (h.block w.heap.size (by simp)).trans (heap_alloc_new w.drew _)
theorem below_al {w w' : World} (h : Below (w.alloc ask0).heap.size (w.alloc ask0) w') : Below w.heap.size w w' := below_trans' ((Below.refl _ _).alloc (Nat.le_refl _) _) h
theorem below_ald {w w' : World} (h : Below (w.drew.alloc ask0).heap.size (w.drew.alloc ask0) w') : Below w.heap.size w w' := below_undr2 (below_al h)
theorem below_dal {w w' : World} (h : Below (w.alloc ask0).drew.heap.size (w.alloc ask0).drew w') : Below w.heap.size w w' := below_al (below_undr2 h)
theorem blk_dal {w w' : World} (h : Below (w.alloc ask0).drew.heap.size (w.alloc ask0).drew w') : w'.heap[w.heap.size]? = some ask0 := blk_al (below_undr2 h)
def AskCut (w1 : World) (v4 : Value) (wx : World) : Prop := ∃ (P : Nat) (C : Option Addr) (d : Nat), v4 = .pointer (some ⟨P, 0, none⟩) ∧ wx.heap[P]? = some (.cells #[.string ⟨#[97]⟩, .slice C 1 d, .bool false, .int .i64 0] 162 (0, 0)) ∧ StrsAt wx C 1 d [[98]] ∧ NewB C w1.heap.size ∧ w1.heap.size ≤ P ∧ Below w1.heap.size w1 wx
theorem ask_last {w1 wy : World} {C : Option Addr} {d : Nat} (hs : StrsAt wy C 1 d [[98]]) (hn : ∀ g off, C = some ⟨g, off, none⟩ → w1.heap.size ≤ g) (hy : Below w1.heap.size w1 wy) :
    AskCut w1 (.pointer (some ⟨wy.heap.size, 0, none⟩)) (wy.alloc (.cells #[.string ⟨#[97]⟩, .slice C 1 d, .bool false, .int .i64 0] 162)) :=
  ⟨wy.heap.size, C, d, rfl, heap_alloc_new wy _, hs.keep ((Below.refl _ _).alloc (Nat.le_refl _) _), hn, hy.size, hy.alloc hy.size _⟩
theorem ask_mid {w1 wy : World} {P : Nat} {C : Option Addr} {d : Nat} (hb : wy.heap[P]? = some ask0) (hs : StrsAt wy C 1 d [[98]]) (hP : w1.heap.size ≤ P) (hn : ∀ g off, C = some ⟨g, off, none⟩ → P < g) (hy : Below w1.heap.size w1 wy) :
    AskCut w1 (.pointer (some ⟨P, 0, none⟩)) ((((wy.setCell ⟨P, 0, none⟩ (.string ⟨#[97]⟩)).setCell ⟨P, 1, none⟩ (.slice C 1 d)).setCell ⟨P, 2, none⟩ (.bool false)).setCell ⟨P, 3, none⟩ (.int .i64 0)) := by
  have hg : wy.grownBy ((((wy.setCell ⟨P, 0, none⟩ (.string ⟨#[97]⟩)).setCell ⟨P, 1, none⟩ (.slice C 1 d)).setCell ⟨P, 2, none⟩ (.bool false)).setCell ⟨P, 3, none⟩ (.int .i64 0)) (some P) :=
    grown_trans (grown_setCell _ _ _ _) (grown_trans (grown_setCell _ _ _ _) (grown_trans (grown_setCell _ _ _ _) (grown_setCell _ _ _ _)))
  refine ⟨P, C, d, rfl, ?_, ElemsAt.grown hs hg (fun g off e he => ?_), fun g off e => ?_, hP, hy.grown hg hy.size (fun i e => by have := Option.some.inj e; omega)⟩
  · simp [World.setCell, Array.getElem?_modify, hb]
  · have := hn g off e
    have := Option.some.inj he
    omega
  · have := hn g off e
    omega
set_option maxHeartbeats 3200000 in
set_option maxRecDepth 100000 in
theorem askLine_ab (A : Option Addr) (c : Nat) (w : World) (h : StrsAt w A 5 c lineL) (hS : StandAt w) :
    Calls Tryz.prog 96 #[.slice A 5 c] w (AskPost w) := by
  have hcc := h.2.1
  obtain ⟨C4, hsl0, hpc⟩ := h.piece 4 5 (by omega) (by omega)
  have hsl : ∀ wx, (Instr.slice 29 (.slice A 5 c) (some (.int .i64 4)) none none).run Tryz.prog wx = .ok (.slice C4 1 (c - 4)) wx := sl_from A 5 c 4 (by omega) _ hsl0
  have HPC : Hid (StrsAt w C4 1 (c - 4) [[98]]) := hpc
  obtain ⟨g, off, rfl, hg, hc⟩ := h.str (by omega)
  have x0 : w.cell? ⟨g, off, none⟩ = some (.string ⟨#[97, 115, 107]⟩) := hc 0 (by omega)
  have x1 : w.cell? ⟨g, off + 1, none⟩ = some (.string ⟨#[97]⟩) := hc 1 (by omega)
  have x2 : w.cell? ⟨g, off + 2, none⟩ = some (.string ⟨#[111, 110, 101]⟩) := hc 2 (by omega)
  have x3 : w.cell? ⟨g, off + 3, none⟩ = some (.string ⟨#[110, 111, 110, 101]⟩) := hc 3 (by omega)
  have HST := Lib.hid hS
  clear h hc hsl0 hpc hS
  go_enter Tryz.func96, Tryz.ntmps96
  go_upto_region 3 with (fail)
  have hb0 := heap_alloc_new w (.cells #[.string ⟨#[]⟩, .slice none 0 0, .bool false, .int .i64 0] 162)
  have hB : Below w.heap.size w (w.alloc (.cells #[.string ⟨#[]⟩, .slice none 0 0, .bool false, .int .i64 0] 162)) := (Below.refl _ _).alloc (Nat.le_refl _) _
  generalize w.alloc (.cells #[.string ⟨#[]⟩, .slice none 0 0, .bool false, .int .i64 0] 162) = w1 at *
  have HB0 := Lib.hid hb0; clear hb0
  have y1 := (hB.cell (p := ⟨g, off + 1, none⟩) hg).trans x1
  have y2 := (hB.cell (p := ⟨g, off + 2, none⟩) hg).trans x2
  have y3 := (hB.cell (p := ⟨g, off + 3, none⟩) hg).trans x3
  have hg1 : g < w1.heap.size := Nat.lt_of_lt_of_le hg hB.size
  have HPC1 := Lib.hid (HPC.out.keep hB)
  have HST1 := Lib.hid (HST.out.below hB)
  clear x0 x1 x2 x3 HPC HST
  go_cut [4] (fun v4 wx => AskCut w1 v4 wx)
  case first =>
    have hne1 : w1.heap.size ≠ g := by omega
    go_region_held3 (fun w' => w'.cell? ⟨g, off + 1, none⟩ = some (.string ⟨#[97]⟩) ∧ w'.cell? ⟨g, off + 2, none⟩ = some (.string ⟨#[111, 110, 101]⟩) ∧ w'.cell? ⟨g, off + 3, none⟩ = some (.string ⟨#[110, 111, 110, 101]⟩))
      (go_keep)
      (first
        | (go_at_call 149; (with_reducible refine Calls.mono (spreads_any _ ?_) ?_); (first | exact HST1.out.below ((Below.refl _ _).drew) | exact HST1.out.below (((Below.refl _ _).alloc (Nat.le_refl _) _).drew)); rintro e wx ⟨Ax, rfl, hsx, hbx⟩; have hx0 : Below w1.heap.size w1 wx := (by first | exact below_undr2 hbx | exact below_ald hbx | exact below_dal hbx); (first | have kB := blk_ald hbx | have kB := blk_dal hbx | skip); have kx1 := (hx0.cell (p := ⟨g, off + 1, none⟩) hg1).trans y1; have kx2 := (hx0.cell (p := ⟨g, off + 2, none⟩) hg1).trans y2; have kx3 := (hx0.cell (p := ⟨g, off + 3, none⟩) hg1).trans y3; have HSX := Lib.hid hsx; have hnex : wx.heap.size ≠ g := (by have := hx0.size; omega); clear hsx hbx)
        | (go_at_call 63; (with_reducible refine Calls.mono (index_none Ax _ ?_) ?_); (first | exact HSX.out | exact HSX.out.keep ((Below.refl _ _).alloc (Nat.le_refl _) _)); rintro e w' ⟨rfl, hw'⟩; obtain rfl := hw'.symm)
        | (go_at_call 150; (with_reducible refine Calls.mono (clone_any C4 1 (c - 4) [[98]] _ ?_ (by omega)) ?_); (first | exact HPC1.out.keep hx0 | exact (HPC1.out.keep hx0).keep ((Below.refl _ _).alloc (Nat.le_refl _) _)); rintro e wy ⟨vy, rfl, howny, hby⟩; obtain ⟨Cy, cy, rfl, hq1, hq2, hq3⟩ := howny.at_ strE_ok; have hy0 : Below w1.heap.size w1 wy := (by first | exact below_trans' hx0 hby | exact below_trans' hx0 (below_al hby)); (first | (have HKB := Lib.hid (blk_al hby); have kB2 := four_c HKB.out) | (have HKB := Lib.hid ((hby.block _ (Array.getElem?_eq_some_iff.1 kB).1).trans kB); have kB2 := four_c HKB.out; have hlw := (Array.getElem?_eq_some_iff.1 kB).1) | skip); have ky1 := (hy0.cell (p := ⟨g, off + 1, none⟩) hg1).trans y1; have ky2 := (hy0.cell (p := ⟨g, off + 2, none⟩) hg1).trans y2; have ky3 := (hy0.cell (p := ⟨g, off + 3, none⟩) hg1).trans y3; have HCY : Hid (StrsAt wy Cy 1 cy [[98]]) := hq2; clear hq2; have hney : wy.heap.size ≠ g := (by have := hy0.size; omega); clear hq1 howny hby))
    all_goals
      go_wp2_with fail
      go_meet
      first
        | (with_reducible exact ask_last HCY.out (fun g off e => by have h1 := (hq3 g off e).2; have h2 := hx0.size; omega) hy0)
        | (with_reducible exact ask_mid HKB.out HCY.out hx0.size (fun g off e => by have h1 := (hq3 g off e).2; simp at h1; omega) hy0)
        | (with_reducible exact ask_mid HKB.out HCY.out (Nat.le_refl _) (fun g off e => by have h1 := (hq3 g off e).2; omega) hy0)
  case rest =>
    obtain ⟨P, C, d, rfl, hP, hC, hN, hP1, hb⟩ := hcut
    have HC := Lib.hid hC; clear hC
    have HN := Lib.hid hN; clear hN
    obtain ⟨a0, a1, a2, a3, u0, u1, u2, u3, u4⟩ := four_c hP
    obtain ⟨b0, b1, b2, b3, v0, v1, v2, v3, v4⟩ := four_c ((hb.block _ (Array.getElem?_eq_some_iff.1 HB0.out).1).trans HB0.out)
    have hl1 := (Array.getElem?_eq_some_iff.1 HB0.out).1
    have hPw : P ≠ w.heap.size := by omega
    have hbw := below_trans' hB hb
    clear y1 y2 y3 hsl HST1 HPC1 hP HB0
    go_wp2_with fail
    go_region
    go_wp2_with fail
    have hg : wc.grownBy ((((wc.setCell ⟨w.heap.size, 0, none⟩ (.string ⟨#[97]⟩)).setCell ⟨w.heap.size, 1, none⟩ (.slice C 1 d)).setCell ⟨w.heap.size, 2, none⟩ (.bool false)).setCell ⟨w.heap.size, 3, none⟩ (.int .i64 0)) (some w.heap.size) :=
      grown_trans (grown_setCell _ _ _ _) (grown_trans (grown_setCell _ _ _ _) (grown_trans (grown_setCell _ _ _ _) (grown_setCell _ _ _ _)))
    refine bodyPost_ret (v := .tuple #[askQ C d, .bool true]) (by simp [results, Tryz.results96, go_sem, b0, b1, b2, b3]) rfl ⟨C, d, rfl, ?_, ?_, ?_⟩
    · have hz : StrsAt _ C 1 d [[98]] := ElemsAt.grown HC.out hg (fun g off e he => by have h1 := HN.out g off e; have h2 : w.heap.size = g := Option.some.inj he; omega)
      exact hz.drewN 1
    · exact fun g off e => by have h1 := HN.out g off e; omega
    · exact (hbw.grown hg (Nat.le_of_lt v4) (fun i e => by have := Option.some.inj e; omega)).drew
end Go.Proofs.YtfijplllfdmcoaaGreatDoor
