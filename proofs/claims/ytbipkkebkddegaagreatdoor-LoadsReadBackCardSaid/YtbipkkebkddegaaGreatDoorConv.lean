
/-
  A string's bytes as a []byte, and back. (Cut out of NearWords.)
-/
import Derived.Test.YtbipkkebkddegaaGreatDoorElems
namespace Go.Proofs.YtbipkkebkddegaaGreatDoor
open Go.RowKit

/-- '[]byte(s)': a new row with the bytes of s. -/
theorem conv_bytes (w : World) (s : ByteArray) : ∃ (C : Array Value) (wb : World),
    (convert 9 71 (.string s)).run Tryz.prog w = .ok (.slice (some ⟨w.heap.size, 0, none⟩) s.size C.size) wb ∧ s.size ≤ C.size ∧
    wb.heap[w.heap.size]? = some (.cells C 5 (C.size, C.size + 1)) ∧ (∀ j (hj : j < s.size), C[j]? = some (.int .u8 (s[j].toNat : Int))) ∧ Below w.heap.size w wb ∧ wb.heap.size = w.heap.size + 1 := by
  have hcap := grownCap_ge w s.size 0 5
  have hsz : (bytesRow s (grownCap w s.size 0 5)).size = grownCap w s.size 0 5 := by
    have : s.data.size = s.size := rfl
    simp [bytesRow]; omega
  have hr := run_bytes_of_string (P := Tryz.prog) w 9 71 5 s Tryz.underlying9 Tryz.underlying71 Tryz.underlying5
  have hat : ∀ j (hj : j < s.size), (bytesRow s (grownCap w s.size 0 5))[j]? = some (.int .u8 (s[j].toNat : Int)) := by
    intro j hj
    have hd : j < s.data.size := hj
    simp only [bytesRow]
    rw [Array.getElem?_append_left (by simpa using hd)]
    rw [Array.getElem?_map, Array.getElem?_eq_getElem hd]
    rfl
  generalize bytesRow s (grownCap w s.size 0 5) = C at *
  rw [← hsz] at hr hcap
  refine ⟨C, w.drew.alloc (.cells C 5 (C.size, C.size + 1)), hr, hcap, ?_, hat, (Below.refl _ _).drew.alloc (Nat.le_refl _) _, ?_⟩
  · exact heap_alloc_new w.drew _
  · simp

theorem getD_byte (s : ByteArray) (i : Nat) (h : i < s.size) : s.data.toList.getD i 0 = s[i] := by
  have hd : i < s.data.toList.length := by simpa using h
  rw [List.getD_eq_getElem?_getD, List.getElem?_eq_getElem hd]
  rfl
/-- Block G holds the bytes M, and behind them others up to N. -/
def BytesAt (w : World) (G N : Nat) (M : List UInt8) : Prop :=
  ∃ C : Array Value, w.heap[G]? = some (.cells C 5 (N, N + 1)) ∧ C.size = N ∧ M.length ≤ N ∧ ∀ j, j < M.length → C[j]? = some (.int .u8 ((M.getD j 0).toNat : Int))

theorem BytesAt.cell {w : World} {G N : Nat} {M : List UInt8} (h : BytesAt w G N M) (j : Nat) (hj : j < M.length) : w.cell? ⟨G, j, none⟩ = some (.int .u8 ((M.getD j 0).toNat : Int)) := by
  obtain ⟨C, h1, h2, h3, h4⟩ := h
  rw [cell_of_row w G j _ _ _ h1]
  exact h4 j hj
theorem BytesAt.frozen {w : World} {G N : Nat} {M : List UInt8} (h : BytesAt w G N M) (j : Nat) (hj : j < M.length) : w.frozen? ⟨G, j, none⟩ = false := by
  obtain ⟨C, h1, h2, h3, h4⟩ := h
  simp [World.frozen?, h1]
  omega
theorem BytesAt.lt {w : World} {G N : Nat} {M : List UInt8} (h : BytesAt w G N M) : G < w.heap.size := by
  obtain ⟨C, h1, _⟩ := h
  exact (Array.getElem?_eq_some_iff.1 h1).1
theorem BytesAt.set {w : World} {G N : Nat} {M : List UInt8} (h : BytesAt w G N M) (i : Nat) (hi : i < M.length) (c : UInt8) : BytesAt (w.setCell ⟨G, i, none⟩ (.int .u8 (c.toNat : Int))) G N (M.set i c) := by
  obtain ⟨C, h1, h2, h3, h4⟩ := h
  refine ⟨C.setIfInBounds i (.int .u8 (c.toNat : Int)), ?_, by simpa using h2, by simpa using h3, fun j hj => ?_⟩
  · simp [World.setCell, Array.getElem?_modify, h1]
  · have hj' : j < M.length := by simpa using hj
    by_cases hji : i = j
    · subst hji
      have : i < C.size := by omega
      simp [this, hi]
    · rw [Array.getElem?_setIfInBounds_ne hji, h4 j hj', List.getD_eq_getElem?_getD, List.getD_eq_getElem?_getD, List.getElem?_set_ne hji]
theorem BytesAt.keep {w w' : World} {G N : Nat} {M : List UInt8} (h : BytesAt w G N M) (hb : w'.heap[G]? = w.heap[G]?) : BytesAt w' G N M := by
  obtain ⟨C, h1, h2⟩ := h
  exact ⟨C, hb.trans h1, h2⟩
theorem BytesAt.below {w w' : World} {G N : Nat} {M : List UInt8} (h : BytesAt w G N M) (hb : Below w.heap.size w w') : BytesAt w' G N M := h.keep (hb.block G h.lt)
theorem BytesAt.alloc {w : World} {G N : Nat} {M : List UInt8} (h : BytesAt w G N M) (o : Obj) : BytesAt (w.alloc o) G N M := h.below ((Below.refl _ _).alloc (Nat.le_refl _) o)

theorem conv_bytes' (w : World) (s : ByteArray) : ∃ (N : Nat) (wb : World),
    (convert 9 71 (.string s)).run Tryz.prog w = .ok (.slice (some ⟨w.heap.size, 0, none⟩) s.size N) wb ∧ s.size ≤ N ∧ BytesAt wb w.heap.size N s.data.toList ∧ Below w.heap.size w wb ∧ wb.heap.size = w.heap.size + 1 := by
  obtain ⟨C, wb, h1, h2, h3, h4, h5, h6⟩ := conv_bytes w s
  exact ⟨C.size, wb, h1, h2, ⟨C, h3, rfl, by simpa using h2, fun j hj => by rw [getD_byte s j (by simpa using hj)]; exact h4 j (by simpa using hj)⟩, h5, h6⟩

theorem conv_back (w : World) (G N n : Nat) (M : List UInt8) (hn : M.length = n) (h : BytesAt w G N M) : (convert 71 9 (.slice (some ⟨G, 0, none⟩) n N)).run Tryz.prog w = .ok (.string ⟨M.toArray⟩) w := by
  subst hn
  refine run_convert_bytes_back w 71 9 5 ⟨G, 0, none⟩ N M Tryz.underlying71 Tryz.underlying5 Tryz.underlying9 (fun j hj => ?_)
  have hadd : (⟨G, 0, none⟩ : Addr).add j = ⟨G, j, none⟩ := by unfold Addr.add; split <;> simp_all
  rw [hadd, h.cell j hj]
  simp [hj]

end Go.Proofs.YtbipkkebkddegaaGreatDoor
