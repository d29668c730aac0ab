
/-
  What Key returns of every string.
-/
import Derived.Test.YthogkcgklakibaaGreatDoorElems
import Derived.Test.YthogkcgklakibaaGreatDoorFaultPlain
namespace Go.Proofs.YthogkcgklakibaaGreatDoor
open Go.RowKit

set_option maxHeartbeats 400000 in
theorem small_any (c : UInt8) (w : World) :
    Calls Tryz.prog 77 #[.int .u8 (c.toNat : Int)] w fun e w' => e = .returned (.bool (smallU c)) ∧ w = w' := by
  have hs : smallU c = (decide (97 ≤ c.toNat) && decide (c.toNat ≤ 122)) := by simp [smallU, UInt8.le_iff_toNat_le]
  rw [hs]; clear hs
  generalize c.toNat = k
  by_cases h1 : 97 ≤ k
  · have h1i : (97 : Int) ≤ (k : Int) := by omega
    go_enter Tryz.func77, Tryz.ntmps77
    go_wp2
    go_ret
    exact ⟨ret_bool (by simp [h1]; try omega), rfl⟩
  · have h1i : ¬ (97 : Int) ≤ (k : Int) := by omega
    go_enter Tryz.func77, Tryz.ntmps77
    go_wp2
    go_ret
    exact ⟨ret_bool rfl, rfl⟩

theorem digU_b (c : UInt8) : digB (c.toNat : Int) = digU c := by
  simp only [digB, digU, UInt8.le_iff_toNat_le]
  have : (48 : UInt8).toNat = 48 := rfl
  have : (57 : UInt8).toNat = 57 := rfl
  by_cases h1 : 48 ≤ c.toNat <;> by_cases h2 : c.toNat ≤ 57 <;> simp [*] <;> omega
theorem keyC_b (c : UInt8) : keyC c = (smallU c || digU c || decide ((c.toNat : Int) = 45) || decide ((c.toNat : Int) = 95)) := by
  have h1 : (c == 45) = decide ((c.toNat : Int) = 45) := by
    by_cases h : c = 45
    · subst h; rfl
    · have h2 : ¬ (c.toNat : Int) = 45 := fun e => h (UInt8.toNat_inj.1 (by have : (45 : UInt8).toNat = 45 := rfl; omega))
      simp [h, h2]
  have h2 : (c == 95) = decide ((c.toNat : Int) = 95) := by
    by_cases h : c = 95
    · subst h; rfl
    · have h2 : ¬ (c.toNat : Int) = 95 := fun e => h (UInt8.toNat_inj.1 (by have : (95 : UInt8).toNat = 95 := rfl; omega))
      simp [h, h2]
  rw [← h1, ← h2]; rfl

set_option maxHeartbeats 1600000 in
set_option maxRecDepth 100000 in
theorem key_any (s : ByteArray) (w : World) (hk : keyL s.data.toList = true) :
    Calls Tryz.prog 42 #[.string s] w fun e w' => e = .returned (.bool true) ∧ w = w' := by
  have hlen : s.data.toList.length = s.size := by simp
  unfold keyL at hk
  simp only [Bool.and_eq_true, decide_eq_true_eq] at hk
  obtain ⟨⟨⟨h1, h2⟩, h3⟩, h4⟩ := hk
  rw [hlen] at h1 h2
  have hin : inB (s.size : Int) 1 40 = true := by simp [inB]; omega
  have HAT : Hid (∀ j, (hj : j < s.size) → keyC s[j] = true) := fun j hj => by
    have h : keyC (s.data[j]'hj) = true := by
      have := List.all_eq_true.1 h3 (s.data.toList[j]'(by omega)) (List.getElem_mem _)
      simpa using this
    exact h
  have h0 : 0 < s.size := by omega
  have H0 : smallU s[0] = true := by
    have h : smallU (s.data[0]'h0) = true := by
      have := List.all_eq_true.1 h4 (s.data.toList[0]'(by omega)) (List.mem_take_iff_getElem.2 ⟨0, by rw [hlen]; omega, rfl⟩)
      simpa using this
    exact h
  clear h3 h4 hlen
  go_enter Tryz.func42, Tryz.ntmps42
  go_wp2_with fail
  refine (in_any _ 1 40 w).mono ?_
  rintro e w' ⟨rfl, rfl⟩
  rw [hin]
  go_wp2_with fail
  refine (small_any _ w).mono ?_
  rintro e w' ⟨rfl, rfl⟩
  rw [H0]
  go_wp2_with fail
  go_loopg [17] s.size (fun gk i wr => ∃ k : Nat, Hid (k + gk = s.size) ∧ i = .int .i64 k ∧ w = wr)
  case atStart => exact ⟨0, show 0 + s.size = s.size by omega, rfl, rfl⟩
  case round =>
    obtain ⟨k, HK, rfl, rfl⟩ := hrel
    have hkn : k ≤ s.size := by have := HK.out; omega
    by_cases hlt : k < s.size
    · have hc := HAT.out k hlt
      rw [keyC_b] at hc
      have HC := Lib.hid hc; clear hc
      have hd := digU_b s[k]
      go_wp2_with fail
      refine (small_any _ w).mono ?_
      rintro e w' ⟨rfl, rfl⟩
      cases h5 : smallU s[k] with
      | true =>
        go_wp2_with fail
        go_roundg (gk - 1)
        case measure => have := HK.out; omega
        case rel => exact ⟨k + 1, show k + 1 + (gk - 1) = s.size by have := HK.out; omega, by go_num, rfl⟩
      | false =>
        go_wp2_with fail
        refine (digit_any _ w).mono ?_
        rintro e w' ⟨rfl, rfl⟩
        rw [hd]
        cases h6 : digU s[k] with
        | true =>
          go_wp2_with fail
          go_roundg (gk - 1)
          case measure => have := HK.out; omega
          case rel => exact ⟨k + 1, show k + 1 + (gk - 1) = s.size by have := HK.out; omega, by go_num, rfl⟩
        | false =>
          have h7 := HC.out
          rw [h5, h6] at h7
          simp only [Bool.false_or, Bool.or_eq_true, decide_eq_true_eq] at h7
          clear h5 h6 HC hd
          rcases h7 with h7 | h7
          · have h8 : ((s[k].toNat : Int) != 45) = false := by simp [h7]
            go_wp2_with fail
            go_roundg (gk - 1)
            case measure => have := HK.out; omega
            case rel => exact ⟨k + 1, show k + 1 + (gk - 1) = s.size by have := HK.out; omega, by go_num, rfl⟩
          · have h8 : ((s[k].toNat : Int) != 95) = false := by simp [h7]
            have h9 : ((s[k].toNat : Int) != 45) = true := by simp [h7]
            go_wp2_with fail
            go_roundg (gk - 1)
            case measure => have := HK.out; omega
            case rel => exact ⟨k + 1, show k + 1 + (gk - 1) = s.size by have := HK.out; omega, by go_num, rfl⟩
    · go_wp2_with fail
      go_ret
      exact ⟨rfl, rfl⟩
set_option maxHeartbeats 1600000 in
set_option maxRecDepth 100000 in
theorem keyAll_any (s : ByteArray) (w : World) (hs : s.size ≤ 1000000) :
    Calls Tryz.prog 42 #[.string s] w fun e w' => e = .returned (.bool (keyL s.data.toList)) ∧ w' = w := by
  have hlen : s.data.toList.length = s.size := by simp
  have HK : Hid (keyL s.data.toList = (decide (1 ≤ s.size) && decide (s.size ≤ 40) && s.data.toList.all keyC && (s.data.toList.take 1).all smallU)) := by show _ = _; unfold keyL; rw [hlen]
  cases hk : keyL s.data.toList with
  | true => exact (key_any s w hk).mono fun _ _ h => ⟨h.1, h.2.symm⟩
  | false =>
    by_cases hin : 1 ≤ s.size ∧ s.size ≤ 40
    · have h1 := hin.1
      have h2 := hin.2
      have hinb : inB (s.size : Int) 1 40 = true := by simp [inB]; omega
      have h0 : 0 < s.size := by omega
      cases hsm : smallU s[0] with
      | false =>
        clear HK hk hlen
        go_enter Tryz.func42, Tryz.ntmps42
        go_wp2_with fail
        refine (in_any _ 1 40 w).mono ?_
        rintro e w' ⟨rfl, rfl⟩
        rw [hinb]
        go_wp2_with fail
        refine (small_any _ w).mono ?_
        rintro e w' ⟨rfl, rfl⟩
        rw [hsm]
        go_wp2_with fail
        go_ret
        exact ⟨rfl, rfl⟩
      | true =>
        have hall : s.data.toList.all keyC = false := by
          have ht : (s.data.toList.take 1).all smallU = true := by
            rw [List.all_eq_true]
            intro x hx
            obtain ⟨i, hi, rfl⟩ := List.mem_take_iff_getElem.1 hx
            have : i = 0 := by omega
            subst this
            have h : smallU (s.data[0]'h0) = true := hsm
            simpa using h
          rw [hk, ht] at HK
          have := HK.out
          simpa [h1, h2] using this
        have HALL : Hid (∃ j, ∃ hj : j < s.size, keyC s[j] = false) := by
          rw [List.all_eq_false] at hall
          obtain ⟨x, hx, hc⟩ := hall
          obtain ⟨j, hj, rfl⟩ := List.getElem_of_mem hx
          refine ⟨j, by omega, ?_⟩
          have h : keyC (s.data[j]'(by omega)) = false := by simpa using hc
          exact h
        clear HK hk hlen hall hin
        go_enter Tryz.func42, Tryz.ntmps42
        go_wp2_with fail
        refine (in_any _ 1 40 w).mono ?_
        rintro e w' ⟨rfl, rfl⟩
        rw [hinb]
        go_wp2_with fail
        refine (small_any _ w).mono ?_
        rintro e w' ⟨rfl, rfl⟩
        rw [hsm]
        clear hinb hsm
        go_wp2_with fail
        go_loopg [17] s.size (fun gk i wr => ∃ k : Nat, Hid (k + gk = s.size) ∧ i = .int .i64 k ∧ Hid (∀ j, (hj : j < s.size) → j < k → keyC s[j] = true) ∧ w = wr)
        case atStart => exact ⟨0, show 0 + s.size = s.size by omega, rfl, show ∀ j, _ from (fun j hj h => by omega), rfl⟩
        case round =>
          obtain ⟨k, HK, rfl, HF, rfl⟩ := hrel
          have hkn : k ≤ s.size := by have := HK.out; omega
          by_cases hlt : k < s.size
          · have hd := digU_b s[k]
            have HC := Lib.hid (keyC_b s[k])
            have HNX : Hid (keyC s[k] = true → ∀ j, (hj : j < s.size) → j < k + 1 → keyC s[j] = true) := fun hc j hj h => by
              rcases Nat.lt_or_ge j k with h' | h'
              · exact HF.out j hj h'
              · obtain rfl : j = k := by omega
                exact hc
            go_wp2_with fail
            refine (small_any _ w).mono ?_
            rintro e w' ⟨rfl, rfl⟩
            cases h5 : smallU s[k] with
            | true =>
              have HN2 := Lib.hid (HNX.out (by rw [HC.out, h5]; rfl))
              go_wp2_with fail
              go_roundg (gk - 1)
              case measure => have := HK.out; omega
              case rel => exact ⟨k + 1, show k + 1 + (gk - 1) = s.size by have := HK.out; omega, by go_num, HN2.out, rfl⟩
            | false =>
              go_wp2_with fail
              refine (digit_any _ w).mono ?_
              rintro e w' ⟨rfl, rfl⟩
              rw [hd]
              cases h6 : digU s[k] with
              | true =>
                have HN2 := Lib.hid (HNX.out (by rw [HC.out, h5, h6]; rfl))
                go_wp2_with fail
                go_roundg (gk - 1)
                case measure => have := HK.out; omega
                case rel => exact ⟨k + 1, show k + 1 + (gk - 1) = s.size by have := HK.out; omega, by go_num, HN2.out, rfl⟩
              | false =>
                by_cases h7 : (s[k].toNat : Int) = 45
                · have HN2 := Lib.hid (HNX.out (by rw [HC.out, h5, h6, h7]; rfl))
                  have h8 : ((s[k].toNat : Int) != 45) = false := by simp [h7]
                  clear h5 h6 HC hd
                  go_wp2_with fail
                  go_roundg (gk - 1)
                  case measure => have := HK.out; omega
                  case rel => exact ⟨k + 1, show k + 1 + (gk - 1) = s.size by have := HK.out; omega, by go_num, HN2.out, rfl⟩
                · have h9 : ((s[k].toNat : Int) != 45) = true := by simpa using h7
                  by_cases h10 : (s[k].toNat : Int) = 95
                  · have HN2 := Lib.hid (HNX.out (by rw [HC.out, h5, h6, h10]; rfl))
                    have h8 : ((s[k].toNat : Int) != 95) = false := by simp [h10]
                    clear h5 h6 HC hd
                    go_wp2_with fail
                    go_roundg (gk - 1)
                    case measure => have := HK.out; omega
                    case rel => exact ⟨k + 1, show k + 1 + (gk - 1) = s.size by have := HK.out; omega, by go_num, HN2.out, rfl⟩
                  · have h8 : ((s[k].toNat : Int) != 95) = true := by simpa using h10
                    clear h5 h6 HC hd
                    go_wp2_with fail
                    go_ret
                    exact ⟨rfl, rfl⟩
          · exfalso
            obtain ⟨j, hj, hc⟩ := HALL.out
            rw [HF.out j hj (by omega)] at hc
            cases hc
    · have hinb : inB (s.size : Int) 1 40 = false := by simp [inB]; omega
      clear HK hk hlen
      go_enter Tryz.func42, Tryz.ntmps42
      go_wp2_with fail
      refine (in_any _ 1 40 w).mono ?_
      rintro e w' ⟨rfl, rfl⟩
      rw [hinb]
      go_wp2_with fail
      go_ret
      exact ⟨rfl, rfl⟩

end Go.Proofs.YthogkcgklakibaaGreatDoor
