
/-
  What letter, Lower and Words return.
-/
import Derived.Test.YtfijplllfdmcoaaGreatDoorStrLib
import Derived.Test.YtfijplllfdmcoaaGreatDoorNearPlain
namespace Go.Proofs.YtfijplllfdmcoaaGreatDoor
open Go.RowKit

/-- '[]byte(s)': a new row with the bytes of s. -/
theorem conv_bytes (w : World) (s : ByteArray) : ∃ (C : Array Value) (wb : World),
    (convert 9 136 (.string s)).run Tryz.prog w = .ok (.slice (some ⟨w.heap.size, 0, none⟩) s.size C.size) wb ∧ s.size ≤ C.size ∧
    wb.heap[w.heap.size]? = some (.cells C 5 (C.size, C.size + 1)) ∧ (∀ j (hj : j < s.size), C[j]? = some (.int .u8 (s[j].toNat : Int))) ∧ Below w.heap.size w wb ∧ wb.heap.size = w.heap.size + 1 := by
  have hcap := grownCap_ge w s.size 0 5
  have hsz : (bytesRow s (grownCap w s.size 0 5)).size = grownCap w s.size 0 5 := by
    have : s.data.size = s.size := rfl
    simp [bytesRow]; omega
  have hr := run_bytes_of_string (P := Tryz.prog) w 9 136 5 s Tryz.underlying9 Tryz.underlying136 Tryz.underlying5
  have hat : ∀ j (hj : j < s.size), (bytesRow s (grownCap w s.size 0 5))[j]? = some (.int .u8 (s[j].toNat : Int)) := by
    intro j hj
    have hd : j < s.data.size := hj
    simp only [bytesRow]
    rw [Array.getElem?_append_left (by simpa using hd)]
    rw [Array.getElem?_map, Array.getElem?_eq_getElem hd]
    rfl
  generalize bytesRow s (grownCap w s.size 0 5) = C at *
  rw [← hsz] at hr hcap
  refine ⟨C, w.drew.alloc (.cells C 5 (C.size, C.size + 1)), hr, hcap, ?_, hat, (Below.refl _ _).drew.alloc (Nat.le_refl _) _, ?_⟩
  · exact heap_alloc_new w.drew _
  · simp

theorem getD_byte (s : ByteArray) (i : Nat) (h : i < s.size) : s.data.toList.getD i 0 = s[i] := by
  have hd : i < s.data.toList.length := by simpa using h
  rw [List.getD_eq_getElem?_getD, List.getElem?_eq_getElem hd]
  rfl
/-- Block G holds the bytes M, and behind them others up to N. -/
def BytesAt (w : World) (G N : Nat) (M : List UInt8) : Prop :=
  ∃ C : Array Value, w.heap[G]? = some (.cells C 5 (N, N + 1)) ∧ C.size = N ∧ M.length ≤ N ∧ ∀ j, j < M.length → C[j]? = some (.int .u8 ((M.getD j 0).toNat : Int))

theorem BytesAt.cell {w : World} {G N : Nat} {M : List UInt8} (h : BytesAt w G N M) (j : Nat) (hj : j < M.length) : w.cell? ⟨G, j, none⟩ = some (.int .u8 ((M.getD j 0).toNat : Int)) := by
  obtain ⟨C, h1, h2, h3, h4⟩ := h
  rw [cell_of_row w G j _ _ _ h1]
  exact h4 j hj
theorem BytesAt.frozen {w : World} {G N : Nat} {M : List UInt8} (h : BytesAt w G N M) (j : Nat) (hj : j < M.length) : w.frozen? ⟨G, j, none⟩ = false := by
  obtain ⟨C, h1, h2, h3, h4⟩ := h
  simp [World.frozen?, h1]
  omega
theorem BytesAt.lt {w : World} {G N : Nat} {M : List UInt8} (h : BytesAt w G N M) : G < w.heap.size := by
  obtain ⟨C, h1, _⟩ := h
  exact (Array.getElem?_eq_some_iff.1 h1).1
theorem BytesAt.set {w : World} {G N : Nat} {M : List UInt8} (h : BytesAt w G N M) (i : Nat) (hi : i < M.length) (c : UInt8) : BytesAt (w.setCell ⟨G, i, none⟩ (.int .u8 (c.toNat : Int))) G N (M.set i c) := by
  obtain ⟨C, h1, h2, h3, h4⟩ := h
  refine ⟨C.setIfInBounds i (.int .u8 (c.toNat : Int)), ?_, by simpa using h2, by simpa using h3, fun j hj => ?_⟩
  · simp [World.setCell, Array.getElem?_modify, h1]
  · have hj' : j < M.length := by simpa using hj
    by_cases hji : i = j
    · subst hji
      have : i < C.size := by omega
      simp [this, hi]
    · rw [Array.getElem?_setIfInBounds_ne hji, h4 j hj', List.getD_eq_getElem?_getD, List.getD_eq_getElem?_getD, List.getElem?_set_ne hji]
theorem BytesAt.keep {w w' : World} {G N : Nat} {M : List UInt8} (h : BytesAt w G N M) (hb : w'.heap[G]? = w.heap[G]?) : BytesAt w' G N M := by
  obtain ⟨C, h1, h2⟩ := h
  exact ⟨C, hb.trans h1, h2⟩
theorem BytesAt.below {w w' : World} {G N : Nat} {M : List UInt8} (h : BytesAt w G N M) (hb : Below w.heap.size w w') : BytesAt w' G N M := h.keep (hb.block G h.lt)
theorem BytesAt.alloc {w : World} {G N : Nat} {M : List UInt8} (h : BytesAt w G N M) (o : Obj) : BytesAt (w.alloc o) G N M := h.below ((Below.refl _ _).alloc (Nat.le_refl _) o)

theorem conv_bytes' (w : World) (s : ByteArray) : ∃ (N : Nat) (wb : World),
    (convert 9 136 (.string s)).run Tryz.prog w = .ok (.slice (some ⟨w.heap.size, 0, none⟩) s.size N) wb ∧ s.size ≤ N ∧ BytesAt wb w.heap.size N s.data.toList ∧ Below w.heap.size w wb ∧ wb.heap.size = w.heap.size + 1 := by
  obtain ⟨C, wb, h1, h2, h3, h4, h5, h6⟩ := conv_bytes w s
  exact ⟨C.size, wb, h1, h2, ⟨C, h3, rfl, by simpa using h2, fun j hj => by rw [getD_byte s j (by simpa using hj)]; exact h4 j (by simpa using hj)⟩, h5, h6⟩

theorem conv_back (w : World) (G N n : Nat) (M : List UInt8) (hn : M.length = n) (h : BytesAt w G N M) : (convert 136 9 (.slice (some ⟨G, 0, none⟩) n N)).run Tryz.prog w = .ok (.string ⟨M.toArray⟩) w := by
  subst hn
  refine run_convert_bytes_back w 136 9 5 ⟨G, 0, none⟩ N M Tryz.underlying136 Tryz.underlying5 Tryz.underlying9 (fun j hj => ?_)
  have hadd : (⟨G, 0, none⟩ : Addr).add j = ⟨G, j, none⟩ := by unfold Addr.add; split <;> simp_all
  rw [hadd, h.cell j hj]
  simp [hj]

theorem letAt_byte (s : ByteArray) (i : Nat) (h : i < s.size) : letAt s.data.toList i = letB (s[i].toNat : Int) := by
  have hd : i < s.data.toList.length := by simpa using h
  rw [letAt, decide_eq_true hd, Bool.true_and, getD_byte s i h]

def LowerPost (w : World) (L : List UInt8) (e : Ending) (w' : World) : Prop := e = .returned (.string ⟨(L.map lowB).toArray⟩) ∧ Below w.heap.size w w'

set_option maxHeartbeats 1600000 in
set_option maxRecDepth 100000 in
theorem lower_any (s : ByteArray) (w : World) (hs : s.size ≤ 20000) :
    Calls Tryz.prog 141 #[.string s] w (LowerPost w s.data.toList) := by
  have hlen : s.data.toList.length = s.size := by simp
  have HLEN := Lib.hid hlen; clear hlen
  obtain ⟨N, wb, hrun, hN, hby, hbb, hszb⟩ := conv_bytes' w s
  have HZ := Lib.hid hszb; clear hszb
  go_enter Tryz.func141, Tryz.ntmps141
  go_wp2_with fail
  clear hrun
  go_loopg [10] s.size (fun gk i wr => ∃ k : Nat, k + gk = s.size ∧ i = .int .i64 k ∧ BytesAt wr w.heap.size N (lowTo s.data.toList k) ∧ Below w.heap.size w wr)
  case atStart => exact ⟨0, by omega, rfl, by rw [lowTo_zero]; exact hby, hbb⟩
  case round =>
    obtain ⟨k, hk, rfl, hbr, hb⟩ := hrel
    have HK := Lib.hid hk; clear hk
    have hkn : k ≤ s.size := by have := HK.out; omega
    have hML := lowTo_length s.data.toList k
    by_cases hlt : k < s.size
    · have hkM : k < (lowTo s.data.toList k).length := by rw [hML, HLEN.out]; exact hlt
      have hkL : k < s.data.toList.length := by rw [HLEN.out]; exact hlt
      have hcell := hbr.cell k hkM
      have hfro := hbr.frozen k hkM
      have hgl := hbr.lt
      rw [lowTo_at _ _ hkL] at hcell
      generalize hc : s.data.toList.getD k 0 = c at *
      have HC := Lib.hid hc; clear hc
      have HML := Lib.hid hML; clear hML
      have HBR := Lib.hid hbr; clear hbr
      by_cases h1 : (65 : Int) ≤ (c.toNat : Int)
      · by_cases h2 : (c.toNat : Int) ≤ 90
        · have hup := lowB_up c (by omega) (by omega)
          have hw : IntKind.u8.wrap ((c.toNat : Int) + 32) = ((lowB c).toNat : Int) := by rw [hup]; rw [IntKind.wrap_u8]; omega
          clear hup
          go_wp2_with fail
          go_roundg (gk - 1)
          case measure => have := HK.out; omega
          case rel => exact ⟨k + 1, by have := HK.out; omega, by go_num, by rw [← lowTo_set _ _ hkL, HC.out]; exact HBR.out.set k hkM _, hb.setCell (Nat.le_refl _) _⟩
        · have hsm := lowB_same c (by omega)
          go_wp2_with fail
          go_roundg (gk - 1)
          case measure => have := HK.out; omega
          case rel => exact ⟨k + 1, by have := HK.out; omega, by go_num, by rw [← lowTo_same _ _ hkL (by rw [HC.out]; exact hsm)]; exact HBR.out, hb⟩
      · have hsm := lowB_same c (by omega)
        go_wp2_with fail
        go_roundg (gk - 1)
        case measure => have := HK.out; omega
        case rel => exact ⟨k + 1, by have := HK.out; omega, by go_num, by rw [← lowTo_same _ _ hkL (by rw [HC.out]; exact hsm)]; exact HBR.out, hb⟩
    · have hall := lowTo_all s.data.toList k (by have := HLEN.out; omega)
      rw [hall] at hbr
      have hback := conv_back wr w.heap.size N s.size _ (by simp) hbr
      clear hall hML
      go_wp2_with fail
      go_ret
      exact ⟨rfl, hb⟩

theorem extract_list (s : ByteArray) (f t : Nat) : (s.extract f t).data.toList = cutL s.data.toList f t := by
  rw [ByteArray.data_extract, Array.toList_extract]
  simp [cutL, List.extract_eq_take_drop]

def WordsPost (w : World) (L : List UInt8) (e : Ending) (w' : World) : Prop := ∃ v, e = .returned v ∧ OwnStrs w' w.heap.size v (wordsL L) ∧ Below w.heap.size w w'

end Go.Proofs.YtfijplllfdmcoaaGreatDoor
