/-
  What the two letters and Lower return.
-/
import Derived.Test.YtldngebikgendaaDoorRedact
import Derived.Test.YtldngebikgendaaDoorLetterPlain
namespace Go.Proofs.YtldngebikgendaaDoor
open Go.RowKit

set_option maxHeartbeats 1600000 in
set_option maxRecDepth 100000 in
theorem nearLetter_any (c : Int) (w : World) :
    Calls Tryd.prog 53 #[.int .u8 c] w fun e w' => e = .returned (.bool (letB c)) ∧ w = w' := by
  by_cases h1 : 97 ≤ c
  · have h2 : 65 ≤ c := by omega
    by_cases h3 : c ≤ 122
    · have HB : Hid (letB c = true) := by show _ = _; unfold letB; simp; omega
      go_enter Tryd.func53, Tryd.ntmps53
      go_wp2_with fail
      go_ret
      exact ⟨ret_bool (by rw [HB.out]; try (simp; omega)), rfl⟩
    · have h4 : ¬ c ≤ 90 := by omega
      by_cases h5 : 128 ≤ c
      · have HB : Hid (letB c = true) := by show _ = _; unfold letB; simp; omega
        go_enter Tryd.func53, Tryd.ntmps53
        go_wp2_with fail
        refine (digit_any c w).mono ?_
        rintro e w' ⟨rfl, rfl⟩
        rw [show digB c = false by unfold digB; simp; omega]
        go_wp2_with fail
        go_ret
        exact ⟨ret_bool (by rw [HB.out]; try (simp; omega)), rfl⟩
      · have HB : Hid (letB c = false) := by show _ = _; unfold letB; simp; omega
        go_enter Tryd.func53, Tryd.ntmps53
        go_wp2_with fail
        refine (digit_any c w).mono ?_
        rintro e w' ⟨rfl, rfl⟩
        rw [show digB c = false by unfold digB; simp; omega]
        go_wp2_with fail
        go_ret
        exact ⟨ret_bool (by rw [HB.out]; try (simp; omega)), rfl⟩
  · have h6 : ¬ 128 ≤ c := by omega
    by_cases h2 : 65 ≤ c
    · by_cases h3 : c ≤ 90
      · have HB : Hid (letB c = true) := by show _ = _; unfold letB; simp; omega
        go_enter Tryd.func53, Tryd.ntmps53
        go_wp2_with fail
        go_ret
        exact ⟨ret_bool (by rw [HB.out]; try (simp; omega)), rfl⟩
      · have HB : Hid (letB c = false) := by show _ = _; unfold letB; simp; omega
        go_enter Tryd.func53, Tryd.ntmps53
        go_wp2_with fail
        refine (digit_any c w).mono ?_
        rintro e w' ⟨rfl, rfl⟩
        rw [show digB c = false by unfold digB; simp; omega]
        go_wp2_with fail
        go_ret
        exact ⟨ret_bool (by rw [HB.out]; try (simp; omega)), rfl⟩
    · by_cases h3 : 48 ≤ c ∧ c ≤ 57
      · have HB : Hid (letB c = true) := by show _ = _; unfold letB; simp; omega
        go_enter Tryd.func53, Tryd.ntmps53
        go_wp2_with fail
        refine (digit_any c w).mono ?_
        rintro e w' ⟨rfl, rfl⟩
        rw [show digB c = true by unfold digB; simp; omega]
        go_wp2_with fail
        go_ret
        exact ⟨ret_bool (by rw [HB.out]; try (simp; omega)), rfl⟩
      · have HB : Hid (letB c = false) := by show _ = _; unfold letB; simp; omega
        go_enter Tryd.func53, Tryd.ntmps53
        go_wp2_with fail
        refine (digit_any c w).mono ?_
        rintro e w' ⟨rfl, rfl⟩
        rw [show digB c = false by unfold digB; simp; omega]
        go_wp2_with fail
        go_ret
        exact ⟨ret_bool (by rw [HB.out]; try (simp; omega)), rfl⟩

set_option maxHeartbeats 1600000 in
set_option maxRecDepth 100000 in
theorem privLetter_any (c : Int) (w : World) :
    Calls Tryd.prog 31 #[.int .u8 c] w fun e w' => e = .returned (.bool (letB c)) ∧ w = w' := by
  by_cases h1 : 97 ≤ c
  · have h2 : 65 ≤ c := by omega
    by_cases h3 : c ≤ 122
    · have HB : Hid (letB c = true) := by show _ = _; unfold letB; simp; omega
      go_enter Tryd.func31, Tryd.ntmps31
      go_wp2_with fail
      go_ret
      exact ⟨ret_bool (by rw [HB.out]; try (simp; omega)), rfl⟩
    · have h4 : ¬ c ≤ 90 := by omega
      by_cases h5 : 128 ≤ c
      · have HB : Hid (letB c = true) := by show _ = _; unfold letB; simp; omega
        go_enter Tryd.func31, Tryd.ntmps31
        go_wp2_with fail
        refine (digit_any c w).mono ?_
        rintro e w' ⟨rfl, rfl⟩
        rw [show digB c = false by unfold digB; simp; omega]
        go_wp2_with fail
        go_ret
        exact ⟨ret_bool (by rw [HB.out]; try (simp; omega)), rfl⟩
      · have HB : Hid (letB c = false) := by show _ = _; unfold letB; simp; omega
        go_enter Tryd.func31, Tryd.ntmps31
        go_wp2_with fail
        refine (digit_any c w).mono ?_
        rintro e w' ⟨rfl, rfl⟩
        rw [show digB c = false by unfold digB; simp; omega]
        go_wp2_with fail
        go_ret
        exact ⟨ret_bool (by rw [HB.out]; try (simp; omega)), rfl⟩
  · have h6 : ¬ 128 ≤ c := by omega
    by_cases h2 : 65 ≤ c
    · by_cases h3 : c ≤ 90
      · have HB : Hid (letB c = true) := by show _ = _; unfold letB; simp; omega
        go_enter Tryd.func31, Tryd.ntmps31
        go_wp2_with fail
        go_ret
        exact ⟨ret_bool (by rw [HB.out]; try (simp; omega)), rfl⟩
      · have HB : Hid (letB c = false) := by show _ = _; unfold letB; simp; omega
        go_enter Tryd.func31, Tryd.ntmps31
        go_wp2_with fail
        refine (digit_any c w).mono ?_
        rintro e w' ⟨rfl, rfl⟩
        rw [show digB c = false by unfold digB; simp; omega]
        go_wp2_with fail
        go_ret
        exact ⟨ret_bool (by rw [HB.out]; try (simp; omega)), rfl⟩
    · by_cases h3 : 48 ≤ c ∧ c ≤ 57
      · have HB : Hid (letB c = true) := by show _ = _; unfold letB; simp; omega
        go_enter Tryd.func31, Tryd.ntmps31
        go_wp2_with fail
        refine (digit_any c w).mono ?_
        rintro e w' ⟨rfl, rfl⟩
        rw [show digB c = true by unfold digB; simp; omega]
        go_wp2_with fail
        go_ret
        exact ⟨ret_bool (by rw [HB.out]; try (simp; omega)), rfl⟩
      · have HB : Hid (letB c = false) := by show _ = _; unfold letB; simp; omega
        go_enter Tryd.func31, Tryd.ntmps31
        go_wp2_with fail
        refine (digit_any c w).mono ?_
        rintro e w' ⟨rfl, rfl⟩
        rw [show digB c = false by unfold digB; simp; omega]
        go_wp2_with fail
        go_ret
        exact ⟨ret_bool (by rw [HB.out]; try (simp; omega)), rfl⟩

def LowerPost (w : World) (L : List UInt8) (e : Ending) (w' : World) : Prop := e = .returned (.string ⟨(L.map lowB).toArray⟩) ∧ Below w.heap.size w w'

set_option maxHeartbeats 1600000 in
set_option maxRecDepth 100000 in
theorem lower_any (s : ByteArray) (w : World) (hs : s.size ≤ 20000) :
    Calls Tryd.prog 35 #[.string s] w (LowerPost w s.data.toList) := by
  have hlen : s.data.toList.length = s.size := by simp
  have HLEN := Lib.hid hlen; clear hlen
  obtain ⟨N, wb, hrun, hN, hby, hbb, hszb⟩ := conv_bytes' w s
  have HZ := Lib.hid hszb; clear hszb
  go_enter Tryd.func35, Tryd.ntmps35
  go_wp2_with fail
  clear hrun
  go_loopg [10] s.size (fun gk i wr => ∃ k : Nat, k + gk = s.size ∧ i = .int .i64 k ∧ BytesAt wr w.heap.size N (lowTo s.data.toList k) ∧ Below w.heap.size w wr)
  case atStart => exact ⟨0, by omega, rfl, by rw [lowTo_zero]; exact hby, hbb⟩
  case round =>
    obtain ⟨k, hk, rfl, hbr, hb⟩ := hrel
    have HK := Lib.hid hk; clear hk
    have hkn : k ≤ s.size := by have := HK.out; omega
    have hML := lowTo_length s.data.toList k
    by_cases hlt : k < s.size
    · have hkM : k < (lowTo s.data.toList k).length := by rw [hML, HLEN.out]; exact hlt
      have hkL : k < s.data.toList.length := by rw [HLEN.out]; exact hlt
      have hcell := hbr.cell k hkM
      have hfro := hbr.frozen k hkM
      have hgl := hbr.lt
      rw [lowTo_at _ _ hkL] at hcell
      generalize hc : s.data.toList.getD k 0 = c at *
      have HC := Lib.hid hc; clear hc
      have HML := Lib.hid hML; clear hML
      have HBR := Lib.hid hbr; clear hbr
      by_cases h1 : (65 : Int) ≤ (c.toNat : Int)
      · by_cases h2 : (c.toNat : Int) ≤ 90
        · have hup := lowB_up c (by omega) (by omega)
          have hw : IntKind.u8.wrap ((c.toNat : Int) + 32) = ((lowB c).toNat : Int) := by rw [hup]; rw [IntKind.wrap_u8]; omega
          clear hup
          go_wp2_with fail
          go_roundg (gk - 1)
          case measure => have := HK.out; omega
          case rel => exact ⟨k + 1, by have := HK.out; omega, by go_num, by rw [← lowTo_set _ _ hkL, HC.out]; exact HBR.out.set k hkM _, hb.setCell (Nat.le_refl _) _⟩
        · have hsm := lowB_same c (by omega)
          go_wp2_with fail
          go_roundg (gk - 1)
          case measure => have := HK.out; omega
          case rel => exact ⟨k + 1, by have := HK.out; omega, by go_num, by rw [← lowTo_same _ _ hkL (by rw [HC.out]; exact hsm)]; exact HBR.out, hb⟩
      · have hsm := lowB_same c (by omega)
        go_wp2_with fail
        go_roundg (gk - 1)
        case measure => have := HK.out; omega
        case rel => exact ⟨k + 1, by have := HK.out; omega, by go_num, by rw [← lowTo_same _ _ hkL (by rw [HC.out]; exact hsm)]; exact HBR.out, hb⟩
    · have hall := lowTo_all s.data.toList k (by have := HLEN.out; omega)
      rw [hall] at hbr
      have hback := conv_back wr w.heap.size N s.size _ (by simp) hbr
      clear hall hML
      go_wp2_with fail
      go_ret
      exact ⟨rfl, hb⟩

end Go.Proofs.YtldngebikgendaaDoor
