
/-
  What the check of a search says of 'a and b'.
-/
import Derived.Test.YtfijplllfdmcoaaGreatDoorParse2
import Derived.Laws.EntriesVeiled
namespace Go.Proofs.YtfijplllfdmcoaaGreatDoor
open Go.RowKit

theorem nears_any (k : Int) (B C : Value) (A : Option Addr) (n c : Nat) (Q : Option Addr) (m d : Nat) (w : World) (hB : B = .slice A n c) (hC : C = .slice Q m d) (h4 : (k == 4) = false) (h5 : (k == 5) = false) :
    Calls Tryz.prog 192 #[.agg #[.int .i64 k, B, .int .i64 0, C]] w fun e w' => e = .returned (.bool false) ∧ Below w.heap.size w w' := by
  subst hB; subst hC
  go_enter Tryz.func192, Tryz.ntmps192
  go_wp2_with fail
  go_ret
  exact ⟨rfl, (Below.refl _ _).alloc (Nat.le_refl _) _⟩
/-- The closure of size: the counter's cell, and its own. -/
abbrev sizeF (M F : Nat) : Value := .func (.func 191) #[] #[.pointer (some ⟨M, 0, none⟩), .pointer (some ⟨F, 0, none⟩)]
/-- A cell that counts. -/
def CountAt (w : World) (M : Nat) (m : Int) : Prop := w.heap[M]? = some (.cells #[.int .i64 m] 3 (0, 0))
theorem CountAt.cell {w : World} {M : Nat} {m : Int} (h : CountAt w M m) : w.cell? ⟨M, 0, none⟩ = some (.int .i64 m) ∧ w.frozen? ⟨M, 0, none⟩ = false ∧ M < w.heap.size := by
  refine ⟨by rw [cell_of_row w M _ _ _ _ h]; rfl, ?_, (Array.getElem?_eq_some_iff.1 h).1⟩
  unfold CountAt at h; simp [World.frozen?, h]
theorem CountAt.set {w : World} {M : Nat} {m : Int} (h : CountAt w M m) (k : Int) : CountAt (w.setCell ⟨M, 0, none⟩ (.int .i64 k)) M k := by
  unfold CountAt at *; simp [World.setCell, Array.getElem?_modify, h]
theorem CountAt.keep {w w' : World} {M : Nat} {m : Int} (h : CountAt w M m) (hb : Below w.heap.size w w') : CountAt w' M m := (hb.block M h.cell.2.2).trans h
set_option maxHeartbeats 1600000 in
set_option maxRecDepth 100000 in
theorem size1_leaf (M F : Nat) (A : Option Addr) (deep m : Int) (w : World) (hM : CountAt w M m) (hm0 : 0 ≤ m) (hm : m ≤ 50) (hd0 : 0 ≤ deep) (hd : deep ≤ 5) :
    Calls Tryz.prog 191 #[leafQ A, .int .i64 deep, .int .i64 0, .pointer (some ⟨M, 0, none⟩), .pointer (some ⟨F, 0, none⟩)] w fun e w' => e = .returned (.bool true) ∧ CountAt w' M (m + 1) ∧ w.grownBy w' (some M) := by
  obtain ⟨c0, f0, hl⟩ := hM.cell
  have HM := Lib.hid hM; clear hM
  go_enter Tryz.func191, Tryz.ntmps191
  go_wp2_with fail
  have HM2 : Hid (CountAt ((w.setCell ⟨M, 0, none⟩ (.int .i64 (m + 1))).alloc (.cells #[.int .i64 2, .slice A 1 1, .int .i64 0, .slice none 0 0] 94)) M (m + 1)) := (HM.out.set (m + 1)).keep ((Below.refl _ _).alloc (Nat.le_refl _) _)
  have HG2 : Hid (w.grownBy ((w.setCell ⟨M, 0, none⟩ (.int .i64 (m + 1))).alloc (.cells #[.int .i64 2, .slice A 1 1, .int .i64 0, .slice none 0 0] 94)) (some M)) := grown_alloc (grown_setCell _ _ _ _) _
  have hq := heap_alloc_new (w.setCell ⟨M, 0, none⟩ (.int .i64 (m + 1))) (.cells #[.int .i64 2, .slice A 1 1, .int .i64 0, .slice none 0 0] 94)
  have ez : (w.setCell ⟨M, 0, none⟩ (.int .i64 (m + 1))).heap.size = w.heap.size := by simp [World.setCell]
  rw [ez] at hq
  have HQ := Lib.hid hq
  clear c0 f0 HM hq ez
  generalize (w.setCell ⟨M, 0, none⟩ (.int .i64 (m + 1))).alloc (.cells #[.int .i64 2, .slice A 1 1, .int .i64 0, .slice none 0 0] 94) = w2 at *
  refine (nears_any 2 _ _ A 1 1 none 0 0 w2 rfl rfl rfl rfl).mono ?_
  rintro e w3 ⟨rfl, hb⟩
  have HM3 := Lib.hid (HM2.out.keep hb)
  have HG3 := Lib.hid (grown_belowR HG2.out hb)
  obtain ⟨c0, f0, hl3⟩ := HM3.out.cell
  have hq3 := (hb.block _ (Array.getElem?_eq_some_iff.1 HQ.out).1).trans HQ.out
  obtain ⟨d0, d1, d2, d3, e0, e1, e2, e3, hdb⟩ := four_cells hq3
  clear HM2 HG2 HQ hb hq3
  go_wp2_with fail
  refine wp_loop_rounds 1 ?_
  rw [rounds_succ]
  go_wp2_with fail
  go_ret
  exact ⟨rfl, HM3.out, HG3.out⟩
set_option maxHeartbeats 1600000 in
set_option maxRecDepth 100000 in
theorem size1_root (M F : Nat) (Q A B : Option Addr) (c : Nat) (w : World) (hM : CountAt w M 0) (hF : w.cell? ⟨F, 0, none⟩ = some (sizeF M F)) (hFl : F < w.heap.size) (hFM : F ≠ M) (hQ : ElemsAt QryE w Q 2 c [leafR A, leafR B]) (hQM : ∀ g off, Q = some ⟨g, off, none⟩ → g ≠ M) :
    Calls Tryz.prog 191 #[andQ Q c, .int .i64 1, .int .i64 0, .pointer (some ⟨M, 0, none⟩), .pointer (some ⟨F, 0, none⟩)] w fun e w' => e = .returned (.bool true) ∧ w.grownBy w' (some M) := by
  obtain ⟨c0, f0, hl⟩ := hM.cell
  have HM := Lib.hid hM; clear hM
  have eg : ∀ args w, (callFunc 191 args).run Tryz.prog w = .ok (.enter 191 args) w := enters_of Tryz.func191 (by kernel_rfl) rfl
  obtain ⟨gq, oq, rfl, hgq, hcq⟩ := hQ.2.2.2 (by omega)
  have hgM := hQM gq oq rfl
  have HCQ : Hid (∀ k, k < 2 → ∃ X, w.cell? ⟨gq, oq + k * 4, none⟩ = some (.int .i64 2) ∧ w.cell? ⟨gq, oq + k * 4 + 1, none⟩ = some (.slice X 1 1) ∧ w.cell? ⟨gq, oq + k * 4 + 2, none⟩ = some (.int .i64 0) ∧ w.cell? ⟨gq, oq + k * 4 + 3, none⟩ = some (.slice none 0 0)) := fun k hk => by
    match k, hk with
    | 0, _ => exact ⟨A, hcq 0 (leafR A) 0 _ rfl rfl, hcq 0 (leafR A) 1 _ rfl rfl, hcq 0 (leafR A) 2 _ rfl rfl, hcq 0 (leafR A) 3 _ rfl rfl⟩
    | 1, _ => exact ⟨B, hcq 1 (leafR B) 0 _ rfl rfl, hcq 1 (leafR B) 1 _ rfl rfl, hcq 1 (leafR B) 2 _ rfl rfl, hcq 1 (leafR B) 3 _ rfl rfl⟩
  clear hQ hQM hcq
  have HF := Lib.hid hF; clear hF
  go_enter Tryz.func191, Tryz.ntmps191
  go_wp2_with fail
  have HM2 : Hid (CountAt ((w.setCell ⟨M, 0, none⟩ (.int .i64 1)).alloc (.cells #[.int .i64 6, .slice none 0 0, .int .i64 0, .slice (some ⟨gq, oq, none⟩) 2 c] 94)) M 1) := (HM.out.set 1).keep ((Below.refl _ _).alloc (Nat.le_refl _) _)
  have HG2 : Hid (w.grownBy ((w.setCell ⟨M, 0, none⟩ (.int .i64 1)).alloc (.cells #[.int .i64 6, .slice none 0 0, .int .i64 0, .slice (some ⟨gq, oq, none⟩) 2 c] 94)) (some M)) := grown_alloc (grown_setCell _ _ _ _) _
  have hq := heap_alloc_new (w.setCell ⟨M, 0, none⟩ (.int .i64 1)) (.cells #[.int .i64 6, .slice none 0 0, .int .i64 0, .slice (some ⟨gq, oq, none⟩) 2 c] 94)
  have ez : (w.setCell ⟨M, 0, none⟩ (.int .i64 1)).heap.size = w.heap.size := by simp [World.setCell]
  rw [ez] at hq
  have HQ := Lib.hid hq
  clear c0 f0 HM hq ez
  generalize (w.setCell ⟨M, 0, none⟩ (.int .i64 1)).alloc (.cells #[.int .i64 6, .slice none 0 0, .int .i64 0, .slice (some ⟨gq, oq, none⟩) 2 c] 94) = w2 at *
  refine (nears_any 6 _ _ none 0 0 (some ⟨gq, oq, none⟩) 2 c w2 rfl rfl rfl rfl).mono ?_
  rintro e w3 ⟨rfl, hb⟩
  have HM3 := Lib.hid (HM2.out.keep hb)
  have HG3 := Lib.hid (grown_belowR HG2.out hb)
  obtain ⟨c0, f0, hl3⟩ := HM3.out.cell
  have hq3 := (hb.block _ (Array.getElem?_eq_some_iff.1 HQ.out).1).trans HQ.out
  obtain ⟨d0, d1, d2, d3, e0, e1, e2, e3, hdb⟩ := four_cells hq3
  clear HM2 HG2 HQ hb hq3
  go_wp2_with fail
  clear d0 d1 d2 d3 e0 e1 e2 e3 c0 f0
  go_loopg [30] 2 (fun gk v wr => ∃ k : Nat, Hid (k + gk = 2) ∧ v = .int .i64 k ∧ Hid (CountAt wr M ((k : Int) + 1)) ∧ Hid (w.grownBy wr (some M)))
  case atStart => exact ⟨0, show 0 + 2 = 2 by omega, rfl, HM3, HG3⟩
  case round =>
    obtain ⟨k, HK, rfl, HMR, HGR⟩ := hrel
    clear HM3 HG3
    have hkn : k ≤ 2 := by have := HK.out; omega
    by_cases hlt : k < 2
    · obtain ⟨X, x0, x1, x2, x3⟩ := HCQ.out k hlt
      have kb : ∀ o, wr.cell? ⟨gq, o, none⟩ = w.cell? ⟨gq, o, none⟩ := fun o => World.cell?_of_block (HGR.out.block gq hgq (ne_some hgM))
      have y0 := (kb _).trans x0
      have y1 := (kb _).trans x1
      have y2 := (kb _).trans x2
      have y3 := (kb _).trans x3
      have yF : wr.cell? ⟨F, 0, none⟩ = some (sizeF M F) := (World.cell?_of_block (HGR.out.block F hFl (ne_some hFM))).trans HF.out
      have hFr := Nat.lt_of_lt_of_le hFl HGR.out.size
      have HMS : Hid (CountAt (wr.alloc (.cells #[.int .i64 2, .slice X 1 1, .int .i64 0, .slice none 0 0] 94)) M ((k : Int) + 1)) := HMR.out.keep ((Below.refl _ _).alloc (Nat.le_refl _) _)
      have HGS : Hid (w.grownBy (wr.alloc (.cells #[.int .i64 2, .slice X 1 1, .int .i64 0, .slice none 0 0] 94)) (some M)) := grown_alloc HGR.out _
      have hlti : (k : Int) < 2 := by omega
      clear kb x0 x1 x2 x3 HMR HGR
      go_wp2_with fail
      clear y0 y1 y2 y3 yF
      refine (size1_leaf M F X 2 ((k : Int) + 1) _ HMS.out (by omega) (by omega) (by omega) (by omega)).mono ?_
      rintro e w4 ⟨rfl, hM4, hg4⟩
      have HM4 : Hid (CountAt w4 M (((k + 1 : Nat) : Int) + 1)) := by push_cast; exact hM4
      have HG4 := Lib.hid (grown_trans HGS.out hg4)
      clear hM4 hg4 HMS HGS
      go_wp2_with fail
      go_roundg (gk - 1)
      case measure => have := HK.out; omega
      case rel => exact ⟨k + 1, show k + 1 + (gk - 1) = 2 by have := HK.out; omega, by go_num, HM4, HG4⟩
    · have hlti : ¬ (k : Int) < 2 := by omega
      go_wp2_with fail
      go_ret
      exact ⟨rfl, HGR.out⟩
set_option maxHeartbeats 1600000 in
set_option maxRecDepth 100000 in
theorem size_any (Q A B : Option Addr) (c : Nat) (w : World) (hQ : ElemsAt QryE w Q 2 c [leafR A, leafR B]) :
    Calls Tryz.prog 145 #[andQ Q c] w fun e w' => e = .returned (.int .i64 0) ∧ Below w.heap.size w w' := by
  have HQ := Lib.hid hQ; clear hQ
  have eg : ∀ args w, (callFunc 191 args).run Tryz.prog w = .ok (.enter 191 args) w := enters_of Tryz.func191 (by kernel_rfl) rfl
  go_enter Tryz.func145, Tryz.ntmps145
  go_wp2_with fail
  have hQ1 : ElemsAt QryE (((w.alloc (.cells #[.int .i64 6, .slice none 0 0, .int .i64 0, .slice Q 2 c] 94)).alloc (.cells #[.int .i64 0] 3)).alloc (.cells #[sizeF (w.heap.size + 1) (w.heap.size + 1 + 1)] 244)) Q 2 c [leafR A, leafR B] :=
    ((HQ.out.keep ((Below.refl _ _).alloc (Nat.le_refl _) _)).keep ((Below.refl _ _).alloc (Nat.le_refl _) _)).keep ((Below.refl _ _).alloc (Nat.le_refl _) _)
  have hM1 : CountAt (((w.alloc (.cells #[.int .i64 6, .slice none 0 0, .int .i64 0, .slice Q 2 c] 94)).alloc (.cells #[.int .i64 0] 3)).alloc (.cells #[sizeF (w.heap.size + 1) (w.heap.size + 1 + 1)] 244)) (w.heap.size + 1) 0 := by
    have h := heap_alloc_new (w.alloc (.cells #[.int .i64 6, .slice none 0 0, .int .i64 0, .slice Q 2 c] 94)) (.cells #[.int .i64 0] 3)
    have e : (w.alloc (.cells #[.int .i64 6, .slice none 0 0, .int .i64 0, .slice Q 2 c] 94)).heap.size = w.heap.size + 1 := by simp
    rw [e] at h
    exact (Below.heap_alloc _ _ _ (by simp)).trans h
  have hF1 : (((w.alloc (.cells #[.int .i64 6, .slice none 0 0, .int .i64 0, .slice Q 2 c] 94)).alloc (.cells #[.int .i64 0] 3)).alloc (.cells #[sizeF (w.heap.size + 1) (w.heap.size + 1 + 1)] 244)).cell? ⟨w.heap.size + 1 + 1, 0, none⟩ = some (sizeF (w.heap.size + 1) (w.heap.size + 1 + 1)) := by
    have h := heap_alloc_new ((w.alloc (.cells #[.int .i64 6, .slice none 0 0, .int .i64 0, .slice Q 2 c] 94)).alloc (.cells #[.int .i64 0] 3)) (.cells #[sizeF (w.heap.size + 1) (w.heap.size + 1 + 1)] 244)
    have e : ((w.alloc (.cells #[.int .i64 6, .slice none 0 0, .int .i64 0, .slice Q 2 c] 94)).alloc (.cells #[.int .i64 0] 3)).heap.size = w.heap.size + 1 + 1 := by simp
    rw [e] at h
    rw [cell_of_row _ _ 0 _ _ _ h]; rfl
  have hB1 : Below w.heap.size w (((w.alloc (.cells #[.int .i64 6, .slice none 0 0, .int .i64 0, .slice Q 2 c] 94)).alloc (.cells #[.int .i64 0] 3)).alloc (.cells #[sizeF (w.heap.size + 1) (w.heap.size + 1 + 1)] 244)) := (((Below.refl _ _).alloc (Nat.le_refl _) _).alloc (by simp) _).alloc (by simp; omega) _
  have hl1 : w.heap.size + 1 + 1 < (((w.alloc (.cells #[.int .i64 6, .slice none 0 0, .int .i64 0, .slice Q 2 c] 94)).alloc (.cells #[.int .i64 0] 3)).alloc (.cells #[sizeF (w.heap.size + 1) (w.heap.size + 1 + 1)] 244)).heap.size := by simp
  have hqm : ∀ g off, Q = some ⟨g, off, none⟩ → g ≠ w.heap.size + 1 := fun g off e => by
    obtain ⟨g', off', e', hl, _⟩ := HQ.out.2.2.2 (by omega)
    rw [e] at e'
    injection (Option.some.inj e') with h1
    omega
  generalize ((w.alloc (.cells #[.int .i64 6, .slice none 0 0, .int .i64 0, .slice Q 2 c] 94)).alloc (.cells #[.int .i64 0] 3)).alloc (.cells #[sizeF (w.heap.size + 1) (w.heap.size + 1 + 1)] 244) = w1 at *
  refine (size1_root (w.heap.size + 1) (w.heap.size + 1 + 1) Q A B c w1 hM1 hF1 hl1 (by omega) hQ1 hqm).mono ?_
  rintro e w2 ⟨rfl, hg⟩
  have hb2 : Below w.heap.size w w2 := hB1.grown hg (by omega) (fun i e => by have := Option.some.inj e; omega)
  clear hQ1 hM1 hF1 hB1 hl1 hqm hg
  go_wp2_with fail
  refine (when_any false 2 w2).mono ?_
  rintro e w3 ⟨rfl, rfl⟩
  go_wp2_with fail
  go_ret
  exact ⟨rfl, hb2⟩

set_option maxHeartbeats 800000 in
theorem uses_word (w : World) : Calls Tryz.prog 193 #[.int .i64 2] w fun e w' => e = .returned (.tuple #[.agg #[.int .i64 1, .int .i64 1], .agg #[.int .i64 0, .int .i64 0], .bool false, .bool true]) ∧ Below w.heap.size w w' := by
  go_enter Tryz.func193, Tryz.ntmps193
  go_wp2_with fail
  go_region
  go_wp2_with fail
  exact bodyPost_ret (v := .tuple #[.agg #[.int .i64 1, .int .i64 1], .agg #[.int .i64 0, .int .i64 0], .bool false, .bool true]) (by simp [results, Tryz.results193, go_sem]) rfl ⟨rfl, Go.Proofs.YtfijplllfdmcoaaGreatDoor.below_drewN ((((Below.refl _ _).alloc (Nat.le_refl _) _).alloc (by simp) _).alloc (by simp; omega) _) 1⟩
set_option maxHeartbeats 800000 in
theorem uses_and (w : World) : Calls Tryz.prog 193 #[.int .i64 6] w fun e w' => e = .returned (.tuple #[.agg #[.int .i64 0, .int .i64 0], .agg #[.int .i64 2, .int .i64 100], .bool false, .bool true]) ∧ Below w.heap.size w w' := by
  go_enter Tryz.func193, Tryz.ntmps193
  go_wp2_with fail
  go_region
  go_wp2_with fail
  exact bodyPost_ret (v := .tuple #[.agg #[.int .i64 0, .int .i64 0], .agg #[.int .i64 2, .int .i64 100], .bool false, .bool true]) (by simp [results, Tryz.results193, go_sem]) rfl ⟨rfl, Go.Proofs.YtfijplllfdmcoaaGreatDoor.below_drewN ((((Below.refl _ _).alloc (Nat.le_refl _) _).alloc (by simp) _).alloc (by simp; omega) _) 1⟩
theorem reserved_word (c : UInt8) (w : World) : Calls Tryz.prog 195 #[.string ⟨#[c]⟩] w fun e w' => e = .returned (.bool false) ∧ w = w' := by
  go_enter Tryz.func195, Tryz.ntmps195
  go_wp2_with fail
  go_ret
  exact ⟨rfl, rfl⟩
end Go.Proofs.YtfijplllfdmcoaaGreatDoor
