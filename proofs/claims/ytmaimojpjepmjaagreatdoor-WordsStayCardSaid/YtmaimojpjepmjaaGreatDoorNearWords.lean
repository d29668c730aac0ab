
/-
  What letter, Lower and Words return.
-/
import Derived.Test.YtmaimojpjepmjaaGreatDoorStrLib
import Derived.Test.YtmaimojpjepmjaaGreatDoorNearPlain
namespace Go.Proofs.YtmaimojpjepmjaaGreatDoor
open Go.RowKit

/-- '[]byte(s)': a new row with the bytes of s. -/
theorem conv_bytes (w : World) (s : ByteArray) : ∃ (C : Array Value) (wb : World),
    (convert 9 103 (.string s)).run Tryz.prog w = .ok (.slice (some ⟨w.heap.size, 0, none⟩) s.size C.size) wb ∧ s.size ≤ C.size ∧
    wb.heap[w.heap.size]? = some (.cells C 5 (C.size, C.size + 1)) ∧ (∀ j (hj : j < s.size), C[j]? = some (.int .u8 (s[j].toNat : Int))) ∧ Below w.heap.size w wb ∧ wb.heap.size = w.heap.size + 1 := by
  have hcap := grownCap_ge w s.size 0 5
  have hsz : (bytesRow s (grownCap w s.size 0 5)).size = grownCap w s.size 0 5 := by
    have : s.data.size = s.size := rfl
    simp [bytesRow]; omega
  have hr := run_bytes_of_string (P := Tryz.prog) w 9 103 5 s Tryz.underlying9 Tryz.underlying103 Tryz.underlying5
  have hat : ∀ j (hj : j < s.size), (bytesRow s (grownCap w s.size 0 5))[j]? = some (.int .u8 (s[j].toNat : Int)) := by
    intro j hj
    have hd : j < s.data.size := hj
    simp only [bytesRow]
    rw [Array.getElem?_append_left (by simpa using hd)]
    rw [Array.getElem?_map, Array.getElem?_eq_getElem hd]
    rfl
  generalize bytesRow s (grownCap w s.size 0 5) = C at *
  rw [← hsz] at hr hcap
  refine ⟨C, w.drew.alloc (.cells C 5 (C.size, C.size + 1)), hr, hcap, ?_, hat, (Below.refl _ _).drew.alloc (Nat.le_refl _) _, ?_⟩
  · exact heap_alloc_new w.drew _
  · simp

theorem getD_byte (s : ByteArray) (i : Nat) (h : i < s.size) : s.data.toList.getD i 0 = s[i] := by
  have hd : i < s.data.toList.length := by simpa using h
  rw [List.getD_eq_getElem?_getD, List.getElem?_eq_getElem hd]
  rfl
/-- Block G holds the bytes M, and behind them others up to N. -/
def BytesAt (w : World) (G N : Nat) (M : List UInt8) : Prop :=
  ∃ C : Array Value, w.heap[G]? = some (.cells C 5 (N, N + 1)) ∧ C.size = N ∧ M.length ≤ N ∧ ∀ j, j < M.length → C[j]? = some (.int .u8 ((M.getD j 0).toNat : Int))

theorem BytesAt.cell {w : World} {G N : Nat} {M : List UInt8} (h : BytesAt w G N M) (j : Nat) (hj : j < M.length) : w.cell? ⟨G, j, none⟩ = some (.int .u8 ((M.getD j 0).toNat : Int)) := by
  obtain ⟨C, h1, h2, h3, h4⟩ := h
  rw [cell_of_row w G j _ _ _ h1]
  exact h4 j hj
theorem BytesAt.frozen {w : World} {G N : Nat} {M : List UInt8} (h : BytesAt w G N M) (j : Nat) (hj : j < M.length) : w.frozen? ⟨G, j, none⟩ = false := by
  obtain ⟨C, h1, h2, h3, h4⟩ := h
  simp [World.frozen?, h1]
  omega
theorem BytesAt.lt {w : World} {G N : Nat} {M : List UInt8} (h : BytesAt w G N M) : G < w.heap.size := by
  obtain ⟨C, h1, _⟩ := h
  exact (Array.getElem?_eq_some_iff.1 h1).1
theorem BytesAt.set {w : World} {G N : Nat} {M : List UInt8} (h : BytesAt w G N M) (i : Nat) (hi : i < M.length) (c : UInt8) : BytesAt (w.setCell ⟨G, i, none⟩ (.int .u8 (c.toNat : Int))) G N (M.set i c) := by
  obtain ⟨C, h1, h2, h3, h4⟩ := h
  refine ⟨C.setIfInBounds i (.int .u8 (c.toNat : Int)), ?_, by simpa using h2, by simpa using h3, fun j hj => ?_⟩
  · simp [World.setCell, Array.getElem?_modify, h1]
  · have hj' : j < M.length := by simpa using hj
    by_cases hji : i = j
    · subst hji
      have : i < C.size := by omega
      simp [this, hi]
    · rw [Array.getElem?_setIfInBounds_ne hji, h4 j hj', List.getD_eq_getElem?_getD, List.getD_eq_getElem?_getD, List.getElem?_set_ne hji]
theorem BytesAt.keep {w w' : World} {G N : Nat} {M : List UInt8} (h : BytesAt w G N M) (hb : w'.heap[G]? = w.heap[G]?) : BytesAt w' G N M := by
  obtain ⟨C, h1, h2⟩ := h
  exact ⟨C, hb.trans h1, h2⟩
theorem BytesAt.below {w w' : World} {G N : Nat} {M : List UInt8} (h : BytesAt w G N M) (hb : Below w.heap.size w w') : BytesAt w' G N M := h.keep (hb.block G h.lt)
theorem BytesAt.alloc {w : World} {G N : Nat} {M : List UInt8} (h : BytesAt w G N M) (o : Obj) : BytesAt (w.alloc o) G N M := h.below ((Below.refl _ _).alloc (Nat.le_refl _) o)

theorem conv_bytes' (w : World) (s : ByteArray) : ∃ (N : Nat) (wb : World),
    (convert 9 103 (.string s)).run Tryz.prog w = .ok (.slice (some ⟨w.heap.size, 0, none⟩) s.size N) wb ∧ s.size ≤ N ∧ BytesAt wb w.heap.size N s.data.toList ∧ Below w.heap.size w wb ∧ wb.heap.size = w.heap.size + 1 := by
  obtain ⟨C, wb, h1, h2, h3, h4, h5, h6⟩ := conv_bytes w s
  exact ⟨C.size, wb, h1, h2, ⟨C, h3, rfl, by simpa using h2, fun j hj => by rw [getD_byte s j (by simpa using hj)]; exact h4 j (by simpa using hj)⟩, h5, h6⟩

theorem conv_back (w : World) (G N n : Nat) (M : List UInt8) (hn : M.length = n) (h : BytesAt w G N M) : (convert 103 9 (.slice (some ⟨G, 0, none⟩) n N)).run Tryz.prog w = .ok (.string ⟨M.toArray⟩) w := by
  subst hn
  refine run_convert_bytes_back w 103 9 5 ⟨G, 0, none⟩ N M Tryz.underlying103 Tryz.underlying5 Tryz.underlying9 (fun j hj => ?_)
  have hadd : (⟨G, 0, none⟩ : Addr).add j = ⟨G, j, none⟩ := by unfold Addr.add; split <;> simp_all
  rw [hadd, h.cell j hj]
  simp [hj]

theorem letAt_byte (s : ByteArray) (i : Nat) (h : i < s.size) : letAt s.data.toList i = letB (s[i].toNat : Int) := by
  have hd : i < s.data.toList.length := by simpa using h
  rw [letAt, decide_eq_true hd, Bool.true_and, getD_byte s i h]

set_option maxHeartbeats 1600000 in
set_option maxRecDepth 100000 in
theorem nearLetter_any (c : Int) (w : World) :
    Calls Tryz.prog 147 #[.int .u8 c] w fun e w' => e = .returned (.bool (letB c)) ∧ w = w' := by
  by_cases h1 : 97 ≤ c
  · have h2 : 65 ≤ c := by omega
    by_cases h3 : c ≤ 122
    · have HB : Hid (letB c = true) := by show _ = _; unfold letB; simp; omega
      go_enter Tryz.func147, Tryz.ntmps147
      go_wp2_with fail
      go_ret
      exact ⟨ret_bool (by rw [HB.out]; try (simp; omega)), rfl⟩
    · have h4 : ¬ c ≤ 90 := by omega
      by_cases h5 : 128 ≤ c
      · have HB : Hid (letB c = true) := by show _ = _; unfold letB; simp; omega
        go_enter Tryz.func147, Tryz.ntmps147
        go_wp2_with fail
        refine (digit_any c w).mono ?_
        rintro e w' ⟨rfl, rfl⟩
        rw [show digB c = false by unfold digB; simp; omega]
        go_wp2_with fail
        go_ret
        exact ⟨ret_bool (by rw [HB.out]; try (simp; omega)), rfl⟩
      · have HB : Hid (letB c = false) := by show _ = _; unfold letB; simp; omega
        go_enter Tryz.func147, Tryz.ntmps147
        go_wp2_with fail
        refine (digit_any c w).mono ?_
        rintro e w' ⟨rfl, rfl⟩
        rw [show digB c = false by unfold digB; simp; omega]
        go_wp2_with fail
        go_ret
        exact ⟨ret_bool (by rw [HB.out]; try (simp; omega)), rfl⟩
  · have h6 : ¬ 128 ≤ c := by omega
    by_cases h2 : 65 ≤ c
    · by_cases h3 : c ≤ 90
      · have HB : Hid (letB c = true) := by show _ = _; unfold letB; simp; omega
        go_enter Tryz.func147, Tryz.ntmps147
        go_wp2_with fail
        go_ret
        exact ⟨ret_bool (by rw [HB.out]; try (simp; omega)), rfl⟩
      · have HB : Hid (letB c = false) := by show _ = _; unfold letB; simp; omega
        go_enter Tryz.func147, Tryz.ntmps147
        go_wp2_with fail
        refine (digit_any c w).mono ?_
        rintro e w' ⟨rfl, rfl⟩
        rw [show digB c = false by unfold digB; simp; omega]
        go_wp2_with fail
        go_ret
        exact ⟨ret_bool (by rw [HB.out]; try (simp; omega)), rfl⟩
    · by_cases h3 : 48 ≤ c ∧ c ≤ 57
      · have HB : Hid (letB c = true) := by show _ = _; unfold letB; simp; omega
        go_enter Tryz.func147, Tryz.ntmps147
        go_wp2_with fail
        refine (digit_any c w).mono ?_
        rintro e w' ⟨rfl, rfl⟩
        rw [show digB c = true by unfold digB; simp; omega]
        go_wp2_with fail
        go_ret
        exact ⟨ret_bool (by rw [HB.out]; try (simp; omega)), rfl⟩
      · have HB : Hid (letB c = false) := by show _ = _; unfold letB; simp; omega
        go_enter Tryz.func147, Tryz.ntmps147
        go_wp2_with fail
        refine (digit_any c w).mono ?_
        rintro e w' ⟨rfl, rfl⟩
        rw [show digB c = false by unfold digB; simp; omega]
        go_wp2_with fail
        go_ret
        exact ⟨ret_bool (by rw [HB.out]; try (simp; omega)), rfl⟩

def LowerPost (w : World) (L : List UInt8) (e : Ending) (w' : World) : Prop := e = .returned (.string ⟨(L.map lowB).toArray⟩) ∧ Below w.heap.size w w'

set_option maxHeartbeats 1600000 in
set_option maxRecDepth 100000 in
theorem lower_any (s : ByteArray) (w : World) (hs : s.size ≤ 20000) :
    Calls Tryz.prog 65 #[.string s] w (LowerPost w s.data.toList) := by
  have hlen : s.data.toList.length = s.size := by simp
  have HLEN := Lib.hid hlen; clear hlen
  obtain ⟨N, wb, hrun, hN, hby, hbb, hszb⟩ := conv_bytes' w s
  have HZ := Lib.hid hszb; clear hszb
  go_enter Tryz.func65, Tryz.ntmps65
  go_wp2_with fail
  clear hrun
  go_loopg [10] s.size (fun gk i wr => ∃ k : Nat, k + gk = s.size ∧ i = .int .i64 k ∧ BytesAt wr w.heap.size N (lowTo s.data.toList k) ∧ Below w.heap.size w wr)
  case atStart => exact ⟨0, by omega, rfl, by rw [lowTo_zero]; exact hby, hbb⟩
  case round =>
    obtain ⟨k, hk, rfl, hbr, hb⟩ := hrel
    have HK := Lib.hid hk; clear hk
    have hkn : k ≤ s.size := by have := HK.out; omega
    have hML := lowTo_length s.data.toList k
    by_cases hlt : k < s.size
    · have hkM : k < (lowTo s.data.toList k).length := by rw [hML, HLEN.out]; exact hlt
      have hkL : k < s.data.toList.length := by rw [HLEN.out]; exact hlt
      have hcell := hbr.cell k hkM
      have hfro := hbr.frozen k hkM
      have hgl := hbr.lt
      rw [lowTo_at _ _ hkL] at hcell
      generalize hc : s.data.toList.getD k 0 = c at *
      have HC := Lib.hid hc; clear hc
      have HML := Lib.hid hML; clear hML
      have HBR := Lib.hid hbr; clear hbr
      by_cases h1 : (65 : Int) ≤ (c.toNat : Int)
      · by_cases h2 : (c.toNat : Int) ≤ 90
        · have hup := lowB_up c (by omega) (by omega)
          have hw : IntKind.u8.wrap ((c.toNat : Int) + 32) = ((lowB c).toNat : Int) := by rw [hup]; rw [IntKind.wrap_u8]; omega
          clear hup
          go_wp2_with fail
          go_roundg (gk - 1)
          case measure => have := HK.out; omega
          case rel => exact ⟨k + 1, by have := HK.out; omega, by go_num, by rw [← lowTo_set _ _ hkL, HC.out]; exact HBR.out.set k hkM _, hb.setCell (Nat.le_refl _) _⟩
        · have hsm := lowB_same c (by omega)
          go_wp2_with fail
          go_roundg (gk - 1)
          case measure => have := HK.out; omega
          case rel => exact ⟨k + 1, by have := HK.out; omega, by go_num, by rw [← lowTo_same _ _ hkL (by rw [HC.out]; exact hsm)]; exact HBR.out, hb⟩
      · have hsm := lowB_same c (by omega)
        go_wp2_with fail
        go_roundg (gk - 1)
        case measure => have := HK.out; omega
        case rel => exact ⟨k + 1, by have := HK.out; omega, by go_num, by rw [← lowTo_same _ _ hkL (by rw [HC.out]; exact hsm)]; exact HBR.out, hb⟩
    · have hall := lowTo_all s.data.toList k (by have := HLEN.out; omega)
      rw [hall] at hbr
      have hback := conv_back wr w.heap.size N s.size _ (by simp) hbr
      clear hall hML
      go_wp2_with fail
      go_ret
      exact ⟨rfl, hb⟩

theorem extract_list (s : ByteArray) (f t : Nat) : (s.extract f t).data.toList = cutL s.data.toList f t := by
  rw [ByteArray.data_extract, Array.toList_extract]
  simp [cutL, List.extract_eq_take_drop]

def WordsPost (w : World) (L : List UInt8) (e : Ending) (w' : World) : Prop := ∃ v, e = .returned v ∧ OwnStrs w' w.heap.size v (wordsL L) ∧ Below w.heap.size w w'

set_option maxHeartbeats 3200000 in
set_option maxRecDepth 100000 in
theorem words_any (s : ByteArray) (w : World) (hs : s.size ≤ 20000) :
    Calls Tryz.prog 115 #[.string s] w (WordsPost w s.data.toList) := by
  have hlen : s.data.toList.length = s.size := by simp
  have HLEN := Lib.hid hlen; clear hlen
  go_enter Tryz.func115, Tryz.ntmps115
  go_wp2_with fail
  go_loopg [3, 4, 5] (s.size + 1) (fun gk v fr i wr => ∃ k : Nat, k + gk = s.size + 1 ∧ i = .int .i64 k ∧ fr = .int .i64 (fromI (scan s.data.toList k).1) ∧ OwnStrs wr w.heap.size v (wordsTo s.data.toList k) ∧ Below w.heap.size w wr)
  case atStart => exact ⟨0, by omega, rfl, rfl, Owns.nil _ _, Below.refl _ _⟩
  case round =>
    obtain ⟨k, hk, rfl, rfl, hown, hb⟩ := hrel
    have HK := Lib.hid hk; clear hk
    have hkn : k ≤ s.size + 1 := by have := HK.out; omega
    have HO := Lib.hid hown; clear hown
    by_cases hlt : k ≤ s.size
    · go_upto_region 6 with (fail)
      go_cut [6] (fun v wx => v = .bool (letAt s.data.toList k) ∧ wx = wr)
      case first =>
        by_cases h0 : k < s.size
        · have HC := Lib.hid (letAt_byte s k h0)
          go_wp2_with fail
          refine (nearLetter_any _ _).mono ?_
          rintro e w' ⟨rfl, rfl⟩
          go_wp2_with fail
          go_meet
          exact ⟨congrArg Value.bool HC.out.symm, rfl⟩
        · have hm : letAt s.data.toList k = false := by
            cases hm : letAt s.data.toList k
            · rfl
            · have := letAt_lt hm; have := HLEN.out; omega
          go_wp2_with fail
          go_meet
          exact ⟨congrArg Value.bool hm.symm, rfl⟩
      case rest =>
        obtain ⟨rfl, rfl⟩ := hcut
        have hwl : (wordsTo s.data.toList k).length ≤ k := by unfold wordsTo; rw [List.length_map]; exact scan_length _ k
        have HSC : Hid (scan s.data.toList (k + 1) = scanStep (letAt s.data.toList k) k (scan s.data.toList k)) := rfl
        have HSF := Lib.hid (fun f h => scan_from s.data.toList k f h)
        have HW0 : Hid (wordsTo s.data.toList k = (scan s.data.toList k).2.map fun x => lowL (cutL s.data.toList x.1 x.2)) := rfl
        have HW1 : Hid (wordsTo s.data.toList (k + 1) = (scan s.data.toList (k + 1)).2.map fun x => lowL (cutL s.data.toList x.1 x.2)) := rfl
        generalize wordsTo s.data.toList k = W0 at *
        generalize hsc : scan s.data.toList k = sc at *
        have HSCK := Lib.hid hsc; clear hsc
        obtain ⟨o, out⟩ := sc
        generalize hin : letAt s.data.toList k = b at *
        have HIN := Lib.hid hin; clear hin
        cases b
        · cases o with
          | none =>
            have hf0 : fromI (none, out).1 = -1 := rfl
            have hnx : wordsTo s.data.toList (k + 1) = W0 := by rw [HW1.out, HSC.out, HW0.out]; rfl
            have hny : fromI (scan s.data.toList (k + 1)).1 = -1 := by rw [HSC.out]; rfl
            have HNX := Lib.hid hnx; clear hnx
            have HNY := Lib.hid hny; clear hny
            rw [hf0]
            go_wp2_with fail
            go_roundg (gk - 1)
            case measure => have := HK.out; omega
            case rel => exact ⟨k + 1, by have := HK.out; omega, by go_num, by rw [HNY.out], by rw [HNX.out]; exact HO.out, hb⟩
          | some f =>
            have hf0 : fromI (some f, out).1 = (f : Int) := rfl
            obtain ⟨hfk, _⟩ := HSF.out f rfl
            have hnx : wordsTo s.data.toList (k + 1) = W0 ++ [lowL (cutL s.data.toList f k)] := by rw [HW1.out, HSC.out, HW0.out]; simp [scanStep]
            have hny : fromI (scan s.data.toList (k + 1)).1 = -1 := by rw [HSC.out]; rfl
            have HNX := Lib.hid hnx; clear hnx
            have HNY := Lib.hid hny; clear hny
            rw [hf0]
            go_wp2_with fail
            refine (lower_any (s.extract f k) wc (by rw [ByteArray.size_extract]; omega)).mono ?_
            rintro e w2 ⟨rfl, hb2⟩
            rw [extract_list]
            have HWD : Hid ((cutL s.data.toList f k).map lowB = lowL (cutL s.data.toList f k)) := rfl
            rw [HWD.out]
            have hown2 : OwnStrs w2 w.heap.size u3 W0 := HO.out.below_ hb2
            have hb2 : Below w.heap.size w w2 := hb.trans (hb2.mono hb.size)
            have HO2 := Lib.hid hown2; clear hown2
            generalize hx : lowL (cutL s.data.toList f k) = x at *
            clear hx HWD
            have hsz2 := hb2.size
            go_wp2_with (at_builtin; refine append_elems strE_ok rfl _ _ rfl w.heap.size _ W0 rfl (HO2.out.alloc _) (some ⟨w2.heap.size, 0, none⟩) 1 1 [x] rfl (one_elem w2 x) (by simp only [List.length_singleton]; omega) (by simp; omega) ?_; intro v' w4 hown4 hgrow4 _)
            have hbA : Below w.heap.size w (w2.alloc (.cells #[.string ⟨x.toArray⟩] 9)) := hb2.alloc hb2.size _
            have hb4 : Below w.heap.size w w4 := hbA.grown hgrow4 hbA.size (fun i hi => (HO2.out.lt i hi).1)
            go_wp2_with fail
            go_roundg (gk - 1)
            case measure => have := HK.out; omega
            case rel => exact ⟨k + 1, by have := HK.out; omega, by go_num, by rw [HNY.out], by rw [HNX.out]; exact hown4, hb4⟩
        · cases o with
          | none =>
            have hf0 : fromI (none, out).1 = -1 := rfl
            have hnx : wordsTo s.data.toList (k + 1) = W0 := by rw [HW1.out, HSC.out, HW0.out]; rfl
            have hny : fromI (scan s.data.toList (k + 1)).1 = (k : Int) := by rw [HSC.out]; rfl
            have HNX := Lib.hid hnx; clear hnx
            have HNY := Lib.hid hny; clear hny
            rw [hf0]
            go_wp2_with fail
            go_roundg (gk - 1)
            case measure => have := HK.out; omega
            case rel => exact ⟨k + 1, by have := HK.out; omega, by go_num, by rw [HNY.out], by rw [HNX.out]; exact HO.out, hb⟩
          | some f =>
            have hf0 : fromI (some f, out).1 = (f : Int) := rfl
            have hnx : wordsTo s.data.toList (k + 1) = W0 := by rw [HW1.out, HSC.out, HW0.out]; rfl
            have hny : fromI (scan s.data.toList (k + 1)).1 = (f : Int) := by rw [HSC.out]; rfl
            have HNX := Lib.hid hnx; clear hnx
            have HNY := Lib.hid hny; clear hny
            rw [hf0]
            go_wp2_with fail
            go_roundg (gk - 1)
            case measure => have := HK.out; omega
            case rel => exact ⟨k + 1, by have := HK.out; omega, by go_num, by rw [HNY.out], by rw [HNX.out]; exact HO.out, hb⟩
    · obtain rfl : k = s.size + 1 := by omega
      have hw := HO.out
      have hwe : wordsTo s.data.toList (s.size + 1) = wordsL s.data.toList := by rw [wordsL, HLEN.out]
      rw [hwe] at hw
      go_wp2_with fail
      go_ret
      exact ⟨_, rfl, hw, hb⟩

end Go.Proofs.YtmaimojpjepmjaaGreatDoor
