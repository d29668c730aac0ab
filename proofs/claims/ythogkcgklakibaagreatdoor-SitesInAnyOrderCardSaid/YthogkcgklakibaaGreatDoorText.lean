
/-
  What the functions that validate texts return.
-/
import Derived.Test.YthogkcgklakibaaGreatDoorBase
import Derived.Test.YthogkcgklakibaaGreatDoorShelf
import Derived.Test.YthogkcgklakibaaGreatDoorTextPlain
import Derived.Deep.LoopGhost
import Derived.Deep.DeepCutAuto
namespace Go.Proofs.YthogkcgklakibaaGreatDoor
open Go.RowKit

def Tabs (w : World) : Prop := Lib.Utf8Tabs 1 2 w
theorem Tabs.keep {w w' : World} (h : Tabs w) (hk : ∀ i, i < w.heap.size → i ≤ 10 → w'.heap[i]? = w.heap[i]?) : Tabs w' := by
  have step : ∀ (p : Addr) (v : Value), p.block ≤ 10 → w.cell? p = some v → w'.cell? p = some v := fun p v hp hc =>
    (World.cell?_of_block (hk p.block (World.block_lt_of_cell? w p hc) hp)).trans hc
  exact ⟨fun c hc => step _ _ (by simp) (h.1 c hc), fun i hi => ⟨step _ _ (by simp) (h.2 i hi).1, step _ _ (by simp) (h.2 i hi).2⟩⟩
theorem Tabs.below {w w' : World} (h : Tabs w) (hb : Below w.heap.size w w') : Tabs w' := h.keep fun i hi _ => hb.block i hi
theorem Tabs.drewN {w : World} (h : Tabs w) (n : Nat) : Tabs (w.drewN n) := h

theorem valid_any (s : ByteArray) (w : World) (hs : s.size ≤ 9223372036854775807) (hT : Tabs w) :
    Calls Tryz.prog 160 #[.string s] w fun e w' => e = .returned (.bool (Lib.validD s.data.toList)) ∧ Below w.heap.size w w' := Any.utf8_ValidString Tryz.laysValid s w hs hT

set_option maxHeartbeats 800000 in
theorem visible_any (s : ByteArray) (feeds : Bool) (w : World) (hs : s.size ≤ 1000000) (hT : Tabs w) :
    Calls Tryz.prog 120 #[.string s, .bool feeds] w fun e w' => e = .returned (.bool (visB feeds s.data.toList)) ∧ Below w.heap.size w w' := by
  go_enter Tryz.func120, Tryz.ntmps120
  go_wp2
  go_loop [9] (fun i => ∃ k : Nat, k ≤ s.size ∧ i = .int .i64 k ∧ (s.data.toList.take k).all (fun c => okByte feeds c.toNat) = true) (fun i => s.size - (intOf i).toNat)
  case atStart => exact ⟨0, Nat.zero_le _, rfl, rfl⟩
  case round =>
    obtain ⟨k, hk, rfl, ha⟩ := hrel
    have HA := Lib.hid ha; clear ha
    by_cases hlt : k < s.size
    · have HS := Lib.hid (all_snoc (fun c => okByte feeds c.toNat) s k hlt HA.out)
      have HN := Lib.hid (all_no (fun c => okByte feeds c.toNat) s k hlt)
      cases feeds
      · go_wp2
        · go_ret
          exact ⟨ret_bool (by unfold visB; rw [HN.out (okF1 _ (by assumption))]; rfl), Below.refl _ _⟩
        · go_ret
          exact ⟨ret_bool (by unfold visB; rw [HN.out (okT4 _ _ (by assumption))]; rfl), Below.refl _ _⟩
        · go_round
          case rel => exact ⟨k + 1, by omega, by go_num, HS.out (okT2 _ _ (by assumption) (by assumption))⟩
          case measure => simp [intOf]; omega
      · go_wp2
        · go_round
          case rel => exact ⟨k + 1, by omega, by go_num, HS.out (okT1 _ (by assumption) (by assumption))⟩
          case measure => simp [intOf]; omega
        · go_ret
          exact ⟨ret_bool (by unfold visB; rw [HN.out (okT3 _ (by assumption) (by assumption))]; rfl), Below.refl _ _⟩
        · go_ret
          exact ⟨ret_bool (by unfold visB; rw [HN.out (okT4 _ _ (by assumption))]; rfl), Below.refl _ _⟩
        · go_round
          case rel => exact ⟨k + 1, by omega, by go_num, HS.out (okT2 _ _ (by assumption) (by assumption))⟩
          case measure => simp [intOf]; omega
    · go_wp2_with fail
      refine (valid_any s _ (by omega) hT).mono ?_
      rintro e w1 ⟨rfl, hb⟩
      go_wp2
      go_ret
      exact ⟨ret_bool (by unfold visB; rw [all_end _ s k hlt HA.out]; simp), hb⟩


/-- '[]byte(s)': a new row with the bytes of s. -/
theorem conv_bytes (w : World) (s : ByteArray) : ∃ (C : Array Value) (wb : World),
    (convert 9 152 (.string s)).run Tryz.prog w = .ok (.slice (some ⟨w.heap.size, 0, none⟩) s.size C.size) wb ∧ s.size ≤ C.size ∧
    wb.heap[w.heap.size]? = some (.cells C 5 (C.size, C.size + 1)) ∧ (∀ j (hj : j < s.size), C[j]? = some (.int .u8 (s[j].toNat : Int))) ∧ Below w.heap.size w wb ∧ wb.heap.size = w.heap.size + 1 := by
  have hcap := grownCap_ge w s.size 0 5
  have hsz : (bytesRow s (grownCap w s.size 0 5)).size = grownCap w s.size 0 5 := by
    have : s.data.size = s.size := rfl
    simp [bytesRow]; omega
  have hr := run_bytes_of_string (P := Tryz.prog) w 9 152 5 s Tryz.underlying9 Tryz.underlying152 Tryz.underlying5
  have hat : ∀ j (hj : j < s.size), (bytesRow s (grownCap w s.size 0 5))[j]? = some (.int .u8 (s[j].toNat : Int)) := by
    intro j hj
    have hd : j < s.data.size := hj
    simp only [bytesRow]
    rw [Array.getElem?_append_left (by simpa using hd)]
    rw [Array.getElem?_map, Array.getElem?_eq_getElem hd]
    rfl
  generalize bytesRow s (grownCap w s.size 0 5) = C at *
  rw [← hsz] at hr hcap
  refine ⟨C, w.drew.alloc (.cells C 5 (C.size, C.size + 1)), hr, hcap, ?_, hat, (Below.refl _ _).drew.alloc (Nat.le_refl _) _, ?_⟩
  · exact heap_alloc_new w.drew _
  · simp

set_option maxHeartbeats 800000 in
theorem wellFormed_any (s : ByteArray) (feeds : Bool) (w : World) (hs : s.size ≤ 1000000) (hT : Tabs w) :
    Calls Tryz.prog 154 #[.string s, .bool feeds] w fun e w' => e = .returned (.bool (visB feeds s.data.toList)) ∧ Below w.heap.size w w' := by
  obtain ⟨C, wb, hrun, hC, hblk, hat, hbel, hsz⟩ := conv_bytes w s
  have hcell : ∀ j (hj : j < s.size), wb.cell? ⟨w.heap.size, j, none⟩ = some (.int .u8 (s[j].toNat : Int)) := fun j hj => (cell_of_row wb _ j _ _ _ hblk).trans (hat j hj)
  have HC := Lib.hid hcell; clear hcell hat hblk
  have HZ := Lib.hid hsz; clear hsz
  have hTb : Tabs wb := hT.below hbel
  go_enter Tryz.func154, Tryz.ntmps154
  go_wp2
  clear hrun
  go_loop [10] (fun i => ∃ k : Nat, k ≤ s.size ∧ i = .int .i64 k ∧ (s.data.toList.take k).all (fun c => okByte feeds c.toNat) = true) (fun i => s.size - (intOf i).toNat)
  case atStart => exact ⟨0, Nat.zero_le _, rfl, rfl⟩
  case round =>
    obtain ⟨k, hk, rfl, ha⟩ := hrel
    have HA := Lib.hid ha; clear ha
    by_cases hlt : k < s.size
    · have HS := Lib.hid (all_snoc (fun c => okByte feeds c.toNat) s k hlt HA.out)
      have HN := Lib.hid (all_no (fun c => okByte feeds c.toNat) s k hlt)
      have hcell := HC.out k hlt
      generalize s[k] = ck at *
      cases feeds
      · go_wp2
        · go_ret
          exact ⟨ret_bool (by unfold visB; rw [HN.out (okF1 _ (by assumption))]; rfl), hbel⟩
        · go_ret
          exact ⟨ret_bool (by unfold visB; rw [HN.out (okT4 _ _ (by assumption))]; rfl), hbel⟩
        · go_round
          case rel => exact ⟨k + 1, by omega, by go_num, HS.out (okT2 _ _ (by assumption) (by assumption))⟩
          case measure => simp [intOf]; omega
      · go_wp2
        · go_round
          case rel => exact ⟨k + 1, by omega, by go_num, HS.out (okT1 _ (by assumption) (by assumption))⟩
          case measure => simp [intOf]; omega
        · go_ret
          exact ⟨ret_bool (by unfold visB; rw [HN.out (okT3 _ (by assumption) (by assumption))]; rfl), hbel⟩
        · go_ret
          exact ⟨ret_bool (by unfold visB; rw [HN.out (okT4 _ _ (by assumption))]; rfl), hbel⟩
        · go_round
          case rel => exact ⟨k + 1, by omega, by go_num, HS.out (okT2 _ _ (by assumption) (by assumption))⟩
          case measure => simp [intOf]; omega
    · go_wp2_with fail
      refine (valid_any s _ (by omega) hTb).mono ?_
      rintro e w1 ⟨rfl, hb⟩
      go_wp2
      go_ret
      exact ⟨ret_bool (by unfold visB; rw [all_end _ s k hlt HA.out]; simp), hbel.trans (hb.mono hbel.size)⟩

theorem suffix_eq (s : ByteArray) : Lib.hasSuffix s.data.toList [10] = [10].isSuffixOf s.data.toList := rfl

def bodyE (s : ByteArray) : Int := if 20000 < s.size then 2 else if textB s.data.toList then 0 else 3

end Go.Proofs.YthogkcgklakibaaGreatDoor
