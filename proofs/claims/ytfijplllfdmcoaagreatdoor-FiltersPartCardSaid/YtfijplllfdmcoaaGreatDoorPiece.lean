
/-
  Pieces of a search: what letter, IsPattern and piece return of small words.
-/
import Derived.Test.YtfijplllfdmcoaaGreatDoorHash
namespace Go.Proofs.YtfijplllfdmcoaaGreatDoor
open Go.RowKit

set_option maxRecDepth 100000 in
theorem qLetter_any (c : Int) (w : World) :
    Calls Tryz.prog 215 #[.int .u8 c] w fun e w' => e = .returned (.bool (letB c)) ∧ w = w' := by
  by_cases h1 : 97 ≤ c
  · have h2 : 65 ≤ c := by omega
    by_cases h3 : c ≤ 122
    · have HB : Hid (letB c = true) := by show _ = _; unfold letB; simp; omega
      go_enter Tryz.func215, Tryz.ntmps215
      go_wp2_with fail
      go_ret
      exact ⟨ret_bool (by rw [HB.out]; try (simp; omega)), rfl⟩
    · have h4 : ¬ c ≤ 90 := by omega
      by_cases h5 : 128 ≤ c
      · have HB : Hid (letB c = true) := by show _ = _; unfold letB; simp; omega
        go_enter Tryz.func215, Tryz.ntmps215
        go_wp2_with fail
        refine (digit_any c w).mono ?_
        rintro e w' ⟨rfl, rfl⟩
        rw [show digB c = false by unfold digB; simp; omega]
        go_wp2_with fail
        go_ret
        exact ⟨ret_bool (by rw [HB.out]; try (simp; omega)), rfl⟩
      · have HB : Hid (letB c = false) := by show _ = _; unfold letB; simp; omega
        go_enter Tryz.func215, Tryz.ntmps215
        go_wp2_with fail
        refine (digit_any c w).mono ?_
        rintro e w' ⟨rfl, rfl⟩
        rw [show digB c = false by unfold digB; simp; omega]
        go_wp2_with fail
        go_ret
        exact ⟨ret_bool (by rw [HB.out]; try (simp; omega)), rfl⟩
  · have h6 : ¬ 128 ≤ c := by omega
    by_cases h2 : 65 ≤ c
    · by_cases h3 : c ≤ 90
      · have HB : Hid (letB c = true) := by show _ = _; unfold letB; simp; omega
        go_enter Tryz.func215, Tryz.ntmps215
        go_wp2_with fail
        go_ret
        exact ⟨ret_bool (by rw [HB.out]; try (simp; omega)), rfl⟩
      · have HB : Hid (letB c = false) := by show _ = _; unfold letB; simp; omega
        go_enter Tryz.func215, Tryz.ntmps215
        go_wp2_with fail
        refine (digit_any c w).mono ?_
        rintro e w' ⟨rfl, rfl⟩
        rw [show digB c = false by unfold digB; simp; omega]
        go_wp2_with fail
        go_ret
        exact ⟨ret_bool (by rw [HB.out]; try (simp; omega)), rfl⟩
    · by_cases h3 : 48 ≤ c ∧ c ≤ 57
      · have HB : Hid (letB c = true) := by show _ = _; unfold letB; simp; omega
        go_enter Tryz.func215, Tryz.ntmps215
        go_wp2_with fail
        refine (digit_any c w).mono ?_
        rintro e w' ⟨rfl, rfl⟩
        rw [show digB c = true by unfold digB; simp; omega]
        go_wp2_with fail
        go_ret
        exact ⟨ret_bool (by rw [HB.out]; try (simp; omega)), rfl⟩
      · have HB : Hid (letB c = false) := by show _ = _; unfold letB; simp; omega
        go_enter Tryz.func215, Tryz.ntmps215
        go_wp2_with fail
        refine (digit_any c w).mono ?_
        rintro e w' ⟨rfl, rfl⟩
        rw [show digB c = false by unfold digB; simp; omega]
        go_wp2_with fail
        go_ret
        exact ⟨ret_bool (by rw [HB.out]; try (simp; omega)), rfl⟩


theorem letB_small (c : UInt8) (h1 : 97 ≤ c.toNat) (h2 : c.toNat ≤ 122) : letB (c.toNat : Int) = true := by
  unfold letB
  simp
  omega
set_option maxHeartbeats 1600000 in
set_option maxRecDepth 100000 in
theorem isPattern_any (s : ByteArray) (w : World) (h1 : 1 ≤ s.size) (h2 : s.size ≤ 40) (hc : ∀ j, (hj : j < s.size) → 97 ≤ s[j].toNat ∧ s[j].toNat ≤ 122) :
    Calls Tryz.prog 183 #[.string s] w fun e w' => e = .returned (.bool true) ∧ w' = w := by
  have HC := Lib.hid hc; clear hc
  have hin : inB (s.size : Int) 1 40 = true := by simp [inB]; omega
  go_enter Tryz.func183, Tryz.ntmps183
  go_wp2_with fail
  go_loopg [8] s.size (fun gk i wr => ∃ k : Nat, Hid (k + gk = s.size) ∧ i = .int .i64 k ∧ w = wr)
  case atStart => exact ⟨0, show 0 + s.size = s.size by omega, rfl, rfl⟩
  case round =>
    obtain ⟨k, HK, rfl, rfl⟩ := hrel
    have hkn : k ≤ s.size := by have := HK.out; omega
    by_cases hlt : k < s.size
    · have hc := HC.out k hlt
      have HL := Lib.hid (letB_small s[k] hc.1 hc.2)
      have c1 : (65 : Int) ≤ (s[k].toNat : Int) := by omega
      have c2 : ¬ (s[k].toNat : Int) ≤ 90 := by omega
      go_wp2_with fail
      refine (qLetter_any _ w).mono ?_
      rintro e w' ⟨rfl, rfl⟩
      rw [HL.out]
      go_wp2_with fail
      go_roundg (gk - 1)
      case measure => have := HK.out; omega
      case rel => exact ⟨k + 1, show k + 1 + (gk - 1) = s.size by have := HK.out; omega, by go_num, rfl⟩
    · go_wp2_with fail
      refine (in_any _ 1 40 w).mono ?_
      rintro e w' ⟨rfl, rfl⟩
      rw [hin]
      go_wp2_with fail
      go_ret
      exact ⟨rfl, rfl⟩
def qAgg (k : Int) (ws : Value) (n : Int) (as_ : Value) : Value := .agg #[.int .i64 k, ws, .int .i64 n, as_]
set_option maxHeartbeats 1600000 in
set_option maxRecDepth 100000 in
theorem piece_word (c : UInt8) (w : World) (h1 : 97 ≤ c.toNat) (h2 : c.toNat ≤ 122) :
    Calls Tryz.prog 140 #[.string ⟨#[c]⟩] w fun e w' => ∃ G, e = .returned (.tuple #[.int .i64 3, .agg #[.int .i64 2, .slice (some ⟨G, 0, none⟩) 1 1, .int .i64 0, .slice none 0 0]]) ∧ w.heap.size ≤ G ∧ StrsAt w' (some ⟨G, 0, none⟩) 1 1 [[c]] ∧ Below w.heap.size w w' := by
  have HIP := Lib.hid (fun w => isPattern_any ⟨#[c]⟩ w (show 1 ≤ 1 by omega) (show 1 ≤ 40 by omega) (fun j hj => by
    have hj0 : j = 0 := by have : (⟨#[c]⟩ : ByteArray).size = 1 := rfl; omega
    subst hj0
    exact ⟨h1, h2⟩))
  go_enter Tryz.func140, Tryz.ntmps140
  go_wp2_with fail
  refine (HIP.out _).mono ?_
  rintro e w' ⟨rfl, hw'⟩
  subst hw'
  go_wp2_with fail
  have hst := one_elem (E := StrE) (w.alloc (.cells #[.int .i64 2, .slice (some ⟨w.heap.size + 1, 0, none⟩) 1 1, .int .i64 0, .slice none 0 0] 94)) [c]
  have hsz : (w.alloc (.cells #[.int .i64 2, .slice (some ⟨w.heap.size + 1, 0, none⟩) 1 1, .int .i64 0, .slice none 0 0] 94)).heap.size = w.heap.size + 1 := by simp
  rw [hsz] at hst
  refine bodyPost_ret (v := .tuple #[.int .i64 3, .agg #[.int .i64 2, .slice (some ⟨w.heap.size + 1, 0, none⟩) 1 1, .int .i64 0, .slice none 0 0]]) (by simp [results, Tryz.results140, go_sem]) rfl ⟨w.heap.size + 1, rfl, by omega, hst, ((Below.refl _ _).alloc (Nat.le_refl _) _).alloc (by simp) _⟩
set_option maxHeartbeats 1600000 in
set_option maxRecDepth 100000 in
theorem piece_and (w : World) :
    Calls Tryz.prog 140 #[.string ⟨#[97, 110, 100]⟩] w fun e w' => e = .returned (.tuple #[.int .i64 4, .agg #[.int .i64 0, .slice none 0 0, .int .i64 0, .slice none 0 0]]) ∧ Below w.heap.size w w' := by
  go_enter Tryz.func140, Tryz.ntmps140
  go_wp2_with fail
  exact bodyPost_ret (v := .tuple #[.int .i64 4, .agg #[.int .i64 0, .slice none 0 0, .int .i64 0, .slice none 0 0]]) (by simp [results, Tryz.results140, go_sem]) rfl ⟨rfl, (Below.refl _ _).alloc (Nat.le_refl _) _⟩
end Go.Proofs.YtfijplllfdmcoaaGreatDoor
