
/-
  What ReadLayout makes of one line that asks a field.
-/
import Derived.Test.YtfijplllfdmcoaaGreatDoorLay2
import Derived.Test.YtfijplllfdmcoaaGreatDoorParse3
import Derived.Laws.EntriesVeiled
namespace Go.Proofs.YtfijplllfdmcoaaGreatDoor
open Go.RowKit
attribute [local go_sem ↓] Go.wp_at_zero Go.wp_at_succ

abbrev lay0 : Obj := .cells #[.slice none 0 0, .slice none 0 0] 100
theorem two_c {w : World} {b : Nat} {a0 a1 : Value} {t : TypeId} (h : w.heap[b]? = some (.cells #[a0, a1] t (0, 0))) :
    w.cell? ⟨b, 0, none⟩ = some a0 ∧ w.cell? ⟨b, 1, none⟩ = some a1 ∧ w.frozen? ⟨b, 0, none⟩ = false ∧ w.frozen? ⟨b, 1, none⟩ = false ∧ b < w.heap.size := by
  refine ⟨?_, ?_, ?_, ?_, (Array.getElem?_eq_some_iff.1 h).1⟩
  · rw [cell_of_row w b _ _ _ _ h]; rfl
  · rw [cell_of_row w b _ _ _ _ h]; rfl
  all_goals simp [World.frozen?, h]
theorem grown_none {a b : World} {row : Option Nat} (h : a.grownBy b none) : a.grownBy b row := ⟨h.os, h.tape, h.output, h.size, fun i hi _ => h.block i hi (fun e => by cases e)⟩
def TakePost (w : World) (L : Nat) (e : Ending) (w' : World) : Prop := ∃ Q cq C d, e = .returned (.bool true) ∧ w'.heap[L]? = some (.cells #[.slice Q 1 cq, .slice none 0 0] 100 (0, 0)) ∧ ElemsAt AskE w' Q 1 cq [([97], (C, 1, d), false, 0)] ∧ StrsAt w' C 1 d [[98]] ∧ w.grownBy w' (some L)
set_option maxHeartbeats 3200000 in
set_option maxRecDepth 100000 in
theorem take_ab (A : Option Addr) (c L : Nat) (w : World) (h : StrsAt w A 5 c lineL) (hS : StandAt w) (hL : w.heap[L]? = some lay0) :
    Calls Tryz.prog 95 #[.slice A 5 c, .pointer (some ⟨L, 0, none⟩)] w (TakePost w L) := by
  have hll := (Array.getElem?_eq_some_iff.1 hL).1
  have HAL := Lib.hid (askLine_ab A c w h hS)
  clear h hS
  go_enter Tryz.func95, Tryz.ntmps95
  go_wp2_with fail
  refine HAL.out.mono ?_
  rintro e w1 ⟨C, d, rfl, hC, hN, hb⟩
  have hL1 := (hb.block _ hll).trans hL
  have HC1 := Lib.hid hC
  have HN1 := Lib.hid hN
  clear hC hN HAL hL
  go_upto_region 2 with (fail)
  have hP := heap_alloc_new w1 (.cells #[.string ⟨#[97]⟩, .slice C 1 d, .bool false, .int .i64 0] 162)
  have hBA : Below w1.heap.size w1 (w1.alloc (.cells #[.string ⟨#[97]⟩, .slice C 1 d, .bool false, .int .i64 0] 162)) := (Below.refl _ _).alloc (Nat.le_refl _) _
  have hLlt := (Array.getElem?_eq_some_iff.1 hL1).1
  have hL2 := (hBA.block _ hLlt).trans hL1
  obtain ⟨P, hPe⟩ : ∃ P, P = w1.heap.size := ⟨_, rfl⟩
  have hb2 := below_trans' hb hBA
  have HC2 := Lib.hid (HC1.out.keep hBA)
  rw [← hPe] at hP hLlt ⊢
  have hCP : ∀ g off, C = some ⟨g, off, none⟩ → w.heap.size ≤ g := HN1.out
  have HCP := Lib.hid hCP
  clear hBA hL1 hb HC1 HN1 hCP
  generalize w1.alloc (.cells #[.string ⟨#[97]⟩, .slice C 1 d, .bool false, .int .i64 0] 162) = w2 at *
  obtain ⟨a0, a1, a2, a3, u0, u1, u2, u3, u4⟩ := four_c hP
  obtain ⟨b0, b1, v0, v1, v2⟩ := two_c hL2
  have HP := Lib.hid hP; clear hP
  have HL := Lib.hid hL2; clear hL2
  have hPL : P ≠ L := by omega
  clear hPe
  have hone : ElemsAt AskE (w2.alloc (.cells #[.string ⟨#[97]⟩, .slice C 1 d, .bool false, .int .i64 0] 162)) (some ⟨w2.heap.size, 0, none⟩) 1 1 [([97], (C, 1, d), false, 0)] := one_elem (E := AskE) w2 ([97], (C, 1, d), false, 0)
  have HON := Lib.hid hone; clear hone
  have hBA : Below w2.heap.size w2 (w2.alloc (.cells #[.string ⟨#[97]⟩, .slice C 1 d, .bool false, .int .i64 0] 162)) := (Below.refl _ _).alloc (Nat.le_refl _) _
  have HL3 := Lib.hid ((hBA.block _ v2).trans HL.out)
  have HC3 := Lib.hid (HC2.out.keep hBA)
  have hb3 := below_trans' hb2 hBA
  clear hBA hb2 HC2
  go_wp2_with (at_builtin; go_loud (refine append_elems askE_ok rfl _ _ rfl w2.heap.size (.slice none 0 0) [] rfl (Owns.nil _ _) (some ⟨w2.heap.size, 0, none⟩) 1 1 [([97], (C, 1, d), false, 0)] rfl HON.out (by simp) (by simp) ?_; intro v' w4 hown4 hgrow4 hv4; obtain ⟨Q, cq, rfl, hcq, hatq, hoq⟩ := hown4.at_ askE_ok; have HL4 := Lib.hid (blk_row HL3.out hgrow4 (fun e => by cases e)); obtain ⟨t0, t1, te0, te1, htb⟩ := two_c HL4.out; have HGR := Lib.hid hgrow4; have HAT := Lib.hid hatq; have HOQ := Lib.hid hoq; clear hown4 hgrow4 hv4 hatq hoq))
  have hsz3 : (w2.alloc (.cells #[.string ⟨#[97]⟩, .slice C 1 d, .bool false, .int .i64 0] 162)).heap.size = w2.heap.size + 1 := by simp
  have hgl : w4.grownBy (w4.setCell ⟨L, 0, none⟩ (.slice Q 1 cq)) (some L) := grown_setCell _ _ _ _
  refine bodyPost_ret (v := .bool true) (by simp [results, Tryz.results95, go_sem]) rfl ⟨Q, cq, C, d, rfl, ?_, ?_, ?_, ?_⟩
  · have h := HL4.out
    simp [World.setCell, Array.getElem?_modify, h]
  · exact ElemsAt.grown HAT.out hgl (fun g off e he => by have h1 := (HOQ.out g off e).2; have h2 : L = g := Option.some.inj he; omega)
  · have h4 : StrsAt w4 C 1 d [[98]] := ElemsAt.grown HC3.out HGR.out (fun g off e he => by cases he)
    exact ElemsAt.grown h4 hgl (fun g off e he => by have h1 := HCP.out g off e; have h2 : L = g := Option.some.inj he; omega)
  · refine grown_trans (below_grown hb3 _) (grown_trans (grown_none HGR.out) hgl)
end Go.Proofs.YtfijplllfdmcoaaGreatDoor
