
/-
  A world with draws and blocks behind it; hash of a sample's names leaves such a one; the order of names by hash.
-/
import Derived.Test.YtiegbbngfojjoaaGreatDoorHash
import Derived.Test.YtiegbbngfojjoaaGreatDoorFrac
import Derived.Deep.RegionHeld3
import Derived.Deep.DrawnRows
namespace Go.Proofs.YtiegbbngfojjoaaGreatDoor
open Go.RowKit Go.Sort

/-- Draws and blocks behind a world. -/
def Gr (w w' : World) : Prop := ∃ (q : Nat) (os : Array Obj), w' = grow (w.drewN q) os
theorem Gr.refl (w : World) : Gr w w := ⟨0, #[], by simp [grow, World.drewN]⟩
theorem Gr.trans {a b c : World} (h : Gr a b) (k : Gr b c) : Gr a c := by
  obtain ⟨q, os, rfl⟩ := h
  obtain ⟨r, os', rfl⟩ := k
  exact ⟨q + r, os ++ os', by simp [grow, World.drewN, Array.append_assoc, Nat.add_assoc]⟩
theorem Gr.alloc {a b : World} (h : Gr a b) (o : Obj) : Gr a (b.alloc o) := h.trans ⟨0, #[o], by rw [alloc_eq_grow]; rfl⟩
theorem Gr.drew {a b : World} (h : Gr a b) : Gr a b.drew := h.trans ⟨1, #[], by simp [grow]; rfl⟩
theorem Gr.undrew {a b : World} (h : Gr a.drew b) : Gr a b := (Gr.refl a).drew.trans h
theorem Gr.below {a b : World} (h : Gr a b) : Below a.heap.size a b := by
  obtain ⟨q, os, rfl⟩ := h
  refine ⟨rfl, rfl, rfl, by simp [grow, World.drewN], fun k hk => ?_⟩
  show ((a.drewN q).heap ++ os)[k]? = _
  rw [Array.getElem?_append_left (by simpa [World.drewN] using hk)]
  rfl
theorem conv_gr (w : World) (s : ByteArray) : ∃ (N : Nat) (wb : World),
    (convert 9 116 (.string s)).run Tryz.prog w = .ok (.slice (some ⟨w.heap.size, 0, none⟩) s.size N) wb ∧ s.size ≤ N ∧ BytesAt wb w.heap.size N s.data.toList ∧ Gr w wb ∧ wb.heap.size = w.heap.size + 1 := by
  obtain ⟨N, wb, h1, h2, h3, h4, h5⟩ := conv_bytes' w s
  refine ⟨N, wb, h1, h2, h3, ?_, h5⟩
  have hr := run_bytes_of_string (P := Tryz.prog) w 9 116 5 s Tryz.underlying9 Tryz.underlying116 Tryz.underlying5
  rw [hr] at h1
  injection h1 with _ h1
  rw [← h1]
  exact (Gr.refl w).drew.alloc _
set_option maxHeartbeats 1600000 in
set_option maxRecDepth 100000 in
theorem hash_gr (id seed : ByteArray) (w : World) (h1 : id.size ≤ 1000) (h2 : seed.size ≤ 1000) :
    Calls Tryz.prog 79 #[.string id, .string seed] w fun e w' => e = .returned (.int .i64 (hashN (seed.data.toList ++ 32 :: id.data.toList))) ∧ Gr w w' := by
  have HDAT : Hid ((seed ++ ⟨#[32]⟩ ++ id).data.toList = seed.data.toList ++ 32 :: id.data.toList) := by show _ = _; simp
  have hsz : (seed ++ ⟨#[32]⟩ ++ id).size ≤ 2001 := by simp only [ByteArray.size_append]; show _ + 1 + _ ≤ _; omega
  obtain ⟨Nb, wb, hcv, hNb, hby, hbb, hzb⟩ := conv_gr w (seed ++ ⟨#[32]⟩ ++ id)
  have HZ := Lib.hid hzb; clear hzb
  have HSZ : Hid ((seed ++ ⟨#[32]⟩ ++ id).size = seed.size + 1 + id.size) := by show _ = _; simp only [ByteArray.size_append]; rfl
  go_enter Tryz.func79, Tryz.ntmps79
  go_wp2_with fail
  clear hcv
  generalize seed ++ ⟨#[32]⟩ ++ id = s at *
  have hlen : s.data.toList.length = s.size := by simp
  have HLEN := Lib.hid hlen; clear hlen
  go_loopg [5, 14] (seed.size + 1 + id.size) (fun gk v5 i wr => ∃ (k : Nat), Hid (k + gk = seed.size + 1 + id.size) ∧ i = .int .i64 k ∧ v5 = .int .u32 (fnvTo s.data.toList k) ∧ wb = wr)
  case atStart => exact ⟨0, show 0 + (seed.size + 1 + id.size) = _ by omega, rfl, rfl, rfl⟩
  case round =>
    obtain ⟨k, HK, rfl, rfl, rfl⟩ := hrel
    have hkn : k ≤ seed.size + 1 + id.size := by have := HK.out; omega
    have hz := fnvTo_range s.data.toList k
    by_cases hlt : k < seed.size + 1 + id.size
    · have hkl : k < s.data.toList.length := by rw [HLEN.out, HSZ.out]; exact hlt
      have hcell := hby.cell k hkl
      have HST := Lib.hid (fnvTo_succ s.data.toList k hkl)
      generalize s.data.toList.getD k 0 = c at *
      generalize fnvTo s.data.toList k = z at *
      have hcl : c.toNat < 256 := c.toNat_lt
      clear hkl
      go_wp2_with fail
      go_roundg (gk - 1)
      case measure => have := HK.out; omega
      case rel => exact ⟨k + 1, show k + 1 + (gk - 1) = _ by have := HK.out; omega, by go_num, by rw [HST.out]; rfl, rfl⟩
    · have hke : fnvTo s.data.toList k = fnvTo s.data.toList s.size := by
        unfold fnvTo
        rw [List.take_of_length_le (by rw [HLEN.out, HSZ.out]; omega), List.take_of_length_le (by rw [HLEN.out]; omega)]
      rw [hke] at hz ⊢
      have HHN : Hid (hashN s.data.toList = wrap64 (bits .xor .u32 (mixH (mixH (fnvTo s.data.toList s.size))) (mixH (mixH (fnvTo s.data.toList s.size)) / 8192))) := by show _ = _; unfold hashN; rw [HLEN.out]
      generalize hF : fnvTo s.data.toList s.size = F at *
      clear hke hby
      go_wp2_with fail
      refine wp_loop_rounds 3 ?_
      rw [rounds_succ]
      go_wp2_with fail
      rw [rounds_succ]
      go_wp2_with fail
      rw [rounds_succ]
      go_wp2_with fail
      go_ret
      refine ⟨ret_int ?_, hbb⟩
      rw [← HDAT.out, HHN.out]
      rfl
/-- What cmp.Or returns of two numbers. -/
theorem cmpOr_any (g : Nat) (a b : Int) (w : World) (h0 : w.cell? ⟨g, 0, none⟩ = some (.int .i64 a)) (h1 : w.cell? ⟨g, 1, none⟩ = some (.int .i64 b)) :
    Calls Tryz.prog 134 #[.slice (some ⟨g, 0, none⟩) 2 2] w fun e w' => e = .returned (.int .i64 (if a = 0 then b else a)) ∧ w' = w := by
  by_cases ha : a = 0
  · subst ha
    rw [if_pos rfl]
    by_cases hb : b = 0
    · subst hb
      go_enter Tryz.func134, Tryz.ntmps134
      go_wp2_with fail
      refine wp_loop_rounds 3 ?_
      rw [rounds_succ]
      go_wp2_with fail
      rw [rounds_succ]
      go_wp2_with fail
      rw [rounds_succ]
      go_wp2_with fail
      go_ret
      exact ⟨rfl, rfl⟩
    · have hbb : (b == 0) = false := by simpa using hb
      go_enter Tryz.func134, Tryz.ntmps134
      go_wp2_with fail
      refine wp_loop_rounds 3 ?_
      rw [rounds_succ]
      go_wp2_with fail
      rw [rounds_succ]
      go_wp2_with fail
      go_ret
      exact ⟨rfl, rfl⟩
  · rw [if_neg ha]
    go_enter Tryz.func134, Tryz.ntmps134
    go_wp2_with fail
    refine wp_loop_rounds 3 ?_
    rw [rounds_succ]
    go_wp2_with fail
    go_ret
    exact ⟨rfl, rfl⟩
end Go.Proofs.YtiegbbngfojjoaaGreatDoor
