
/-
  chaseref2.DigestOf at any string: what it returns, to the byte.
-/
import Derived.Test.YthogkcgklakibaaGreatDoorDigAnyD
import Derived.StillTailTactics
namespace Go.Proofs.YthogkcgklakibaaGreatDoor
open Go.RowKit
attribute [local go_sem ↓] Go.wp_at_zero Go.wp_at_succ

/-- So many digits in base 16. -/
def hexAll : Nat → Nat → List Int → List Int
  | 0, _, T => T
  | f + 1, n, T => hexAll f (n / 16) (dig (n % 16) :: T)
theorem hexAll_zero : ∀ (f : Nat) (T : List Int), hexAll f 0 T = List.replicate f 48 ++ T
  | 0, T => rfl
  | f + 1, T => by
    have e : dig (0 % 16) = 48 := by decide
    rw [hexAll, hexAll_zero f, e, List.replicate_succ', List.append_assoc]
    rfl
theorem hexF_more : ∀ (f n : Nat) (T : List Int), 1 ≤ f → T.length + 1 ≤ (hexF f n T).length
  | 0, n, T, h => by omega
  | f + 1, n, T, _ => by
    rw [hexF]
    split
    · simp
    · rcases Nat.eq_zero_or_pos f with rfl | h0
      · simp [hexF]
      · have := hexF_more f (n / 16) (dig (n % 16) :: T) h0
        simp only [List.length_cons] at this
        omega
theorem hexAll_eq : ∀ (f n : Nat) (T : List Int), 1 ≤ f → n < 16 ^ f → hexAll f n T = List.replicate (f - ((hexF f n T).length - T.length)) 48 ++ hexF f n T
  | 0, n, T, h, _ => by omega
  | f + 1, n, T, _, h => by
    by_cases hn : n < 16
    · have e : hexF (f + 1) n T = dig n :: T := by rw [hexF, if_pos hn]
      rw [e, hexAll, Nat.div_eq_of_lt hn, Nat.mod_eq_of_lt hn, hexAll_zero]
      congr 2
      simp
    · rcases Nat.eq_zero_or_pos f with rfl | h0
      · simp at h; omega
      · have e : hexF (f + 1) n T = hexF f (n / 16) (dig (n % 16) :: T) := by rw [hexF, if_neg hn]
        have hm := hexF_more f (n / 16) (dig (n % 16) :: T) h0
        rw [e, hexAll, hexAll_eq f (n / 16) (dig (n % 16) :: T) h0 (by rw [Nat.pow_succ] at h; omega)]
        simp only [List.length_cons] at hm ⊢
        congr 2
        omega
theorem strOfNums_rep (k : Nat) (xs : List Int) : strOfNums (List.replicate k 48 ++ xs) = (⟨(Lib.repeatL [48] k).toArray⟩ : ByteArray) ++ strOfNums xs := by
  apply ByteArray.ext
  apply Array.toList_inj.1
  rw [ByteArray.data_append, Array.toList_append, strOfNums_data, strOfNums_data, List.map_append]
  congr 1
  show _ = Lib.repeatL [48] k
  induction k with
  | zero => rfl
  | succ k ih =>
    rw [List.replicate_succ, List.map_cons, ih]
    simp [Lib.repeatL]
theorem dgB_all (L : List UInt8) : dgB L = strOfNums (hexAll 16 (fn64To L L.length).toNat []) := by
  have hr := fn64To_range L L.length
  have hz : (hexS L).size = (hexF 16 (fn64To L L.length).toNat []).length := by unfold hexS; rw [strOfNums_size]
  rw [hexAll_eq 16 _ [] (by decide) (by have : (16 : Nat) ^ 16 = 18446744073709551616 := by decide
                                        omega), strOfNums_rep]
  unfold dgB
  rw [hz]
  rfl
theorem dig_one (z : Int) (h0 : 0 ≤ z) (h1 : z < 16) (R : List Int) : ((⟨#[48, 49, 50, 51, 52, 53, 54, 55, 56, 57, 97, 98, 99, 100, 101, 102]⟩ : ByteArray).extract z.toNat (z + 1).toNat) ++ strOfNums R = strOfNums (dig z.toNat :: R) := by
  obtain ⟨k, rfl⟩ := Int.eq_ofNat_of_zero_le h0
  have hk : k < 16 := by omega
  have e : ((k : Int) + 1).toNat = k + 1 := by omega
  rw [e, Int.toNat_natCast]
  apply ByteArray.ext
  apply Array.toList_inj.1
  rw [ByteArray.data_append, Array.toList_append, strOfNums_data, strOfNums_data, List.map_cons]
  have : ∀ i : Fin 16, ((⟨#[48, 49, 50, 51, 52, 53, 54, 55, 56, 57, 97, 98, 99, 100, 101, 102]⟩ : ByteArray).extract i.val (i.val + 1)).data.toList = [UInt8.ofNat (dig i.val).toNat] := by decide
  rw [this ⟨k, hk⟩]
  rfl
theorem shl_sum (x : Int) : IntKind.u64.wrap (IntKind.u64.wrap (IntKind.u64.wrap (IntKind.u64.wrap (IntKind.u64.wrap (IntKind.u64.wrap (IntKind.u64.wrap (x * 1099511627776) + IntKind.u64.wrap (x * 256)) + IntKind.u64.wrap (x * 128)) + IntKind.u64.wrap (x * 32)) + IntKind.u64.wrap (x * 16)) + IntKind.u64.wrap (x * 2)) + x) = IntKind.u64.wrap (x * 1099511628211) := by
  simp only [IntKind.wrap_u64]
  omega
set_option maxHeartbeats 1600000 in
set_option maxRecDepth 100000 in
theorem digX_any (s : ByteArray) (w : World) (hs : s.size ≤ 1000000) :
    Calls Tryz.prog 156 #[.string s] w fun e w' => e = .returned (.string (dgB s.data.toList)) ∧ w' = w := by
  have HSL : Hid (s.data.toList.length = s.size) := by show _ = _; simp
  go_enter Tryz.func156, Tryz.ntmps156
  go_wp2_with fail
  go_loopg [3, 8] s.size (fun gk v3 i wr => ∃ (k : Nat) (z : Int), Hid (k + gk = s.size) ∧ i = .int .i64 k ∧ v3 = .int .u64 z ∧ Hid (z = fn64To s.data.toList k) ∧ w = wr)
  case atStart => exact ⟨0, _, show 0 + s.size = _ by omega, rfl, rfl, rfl, rfl⟩
  case round =>
    obtain ⟨k, z, HK, rfl, rfl, HZ, rfl⟩ := hrel
    have hkn : k ≤ s.size := by have := HK.out; omega
    by_cases hlt : k < s.size
    · have HST : Hid (fn64To s.data.toList (k + 1) = fn64Step z (s[k]'hlt)) := by
        show _ = _
        rw [fn64To_succ _ _ (by have := HSL.out; omega), HZ.out]
        congr 1
        rw [List.getD_eq_getElem?_getD, List.getElem?_eq_getElem (by have := HSL.out; omega)]; rfl
      go_wp2_with fail
      go_roundg (gk - 1)
      case measure => have := HK.out; omega
      case rel => exact ⟨k + 1, _, show k + 1 + (gk - 1) = _ by have := HK.out; omega, by go_num, rfl, (by show _ = _; rw [HST.out]; unfold fn64Step; rw [u64_byte]; exact shl_sum _), rfl⟩
    · have hnk : ¬ (k : Int) < (s.size : Int) := by omega
      have hr := fn64To_range s.data.toList s.data.toList.length
      have hz0 : 0 ≤ z := by rw [HZ.out]; exact (fn64To_range _ _).1
      have hz1 : z < 18446744073709551616 := by rw [HZ.out]; exact (fn64To_range _ _).2
      have HEND : Hid (dgB s.data.toList = strOfNums (hexAll 16 z.toNat [])) := by
        show _ = _
        rw [dgB_all, HZ.out, show k = s.data.toList.length by have := HSL.out; omega]
      clear hr HZ
      go_wp2_with fail
      go_loopg [3, 5, 37] 16 (fun gk v3 v5 i wr => ∃ (j : Nat) (y : Int) (r : ByteArray) (R : List Int), Hid (j + gk = 16) ∧ i = .int .i64 j ∧ v3 = .int .u64 y ∧ (0 ≤ y ∧ y < 18446744073709551616) ∧ v5 = .string r ∧ Hid (r = strOfNums R ∧ R.length = j) ∧ Hid (hexAll gk y.toNat R = hexAll 16 z.toNat []) ∧ w = wr)
      case atStart => exact ⟨0, z, ⟨#[]⟩, [], show 0 + 16 = 16 by omega, rfl, rfl, ⟨hz0, hz1⟩, rfl, ⟨rfl, rfl⟩, rfl, rfl⟩
      case round =>
        obtain ⟨j, y, r, R, HJ, rfl, rfl, ⟨hy, hy2⟩, rfl, HR, HA, rfl⟩ := hrel
        have hjn : j ≤ 16 := by have := HJ.out; omega
        by_cases hlt2 : j < 16
        · have hr : r.size = j := by rw [HR.out.1, strOfNums_size, HR.out.2]
          have hm0 : 0 ≤ y.tmod 16 := Int.tmod_nonneg 16 hy
          have hm1 : y.tmod 16 < 16 := Int.tmod_lt_of_pos y (by omega)
          have hw : IntKind.u64.wrap (y.tmod 16 + 1) = y.tmod 16 + 1 := by rw [show IntKind.u64.wrap (y.tmod 16 + 1) = (y.tmod 16 + 1) % 18446744073709551616 by rfl]; omega
          have hq : 0 ≤ y.tdiv 16 := Int.tdiv_nonneg hy (by omega)
          have HX := Lib.hid (dig_one (y % 16) (by omega) (by omega) R)
          have HNX : Hid (hexAll (gk - 1) (y / 16).toNat (dig (y % 16).toNat :: R) = hexAll 16 z.toNat []) := by
            have h := HA.out
            rw [show gk = (gk - 1) + 1 by have := HJ.out; omega, hexAll, show y.toNat / 16 = (y / 16).toNat by omega, show y.toNat % 16 = (y % 16).toNat by omega] at h
            exact h
          have HQ0 : Hid (0 ≤ y / 16 ∧ y / 16 < 18446744073709551616) := ⟨by omega, by omega⟩
          have HWR : Hid (IntKind.u64.wrap (y / 16) = y / 16) := by show _ = _; rw [IntKind.wrap_u64]; omega
          have HWQ : Hid (y.tdiv 16 = y / 16) := Int.tdiv_eq_ediv_of_nonneg hy
          go_wp2_with fail
          go_roundg (gk - 1)
          case measure => have := HJ.out; omega
          case rel => exact ⟨j + 1, y / 16, _, dig (y % 16).toNat :: R, show j + 1 + (gk - 1) = 16 by have := HJ.out; omega, by go_num, by first | rfl | rw [HWQ.out, HWR.out], HQ0.out, rfl, ⟨(by rw [HR.out.1]; exact HX.out), (by rw [List.length_cons, HR.out.2])⟩, HNX.out, rfl⟩
        · have hnj : ¬ (j : Int) < 16 := by omega
          have HF : Hid (r = dgB s.data.toList) := by
            show _ = _
            have h := HA.out
            rw [show gk = 0 by have := HJ.out; omega, hexAll] at h
            rw [HR.out.1, HEND.out, h]
          go_wp2_with fail
          go_ret
          exact ⟨by rw [HF.out]; rfl, rfl⟩
end Go.Proofs.YthogkcgklakibaaGreatDoor
