
/-
  intake.Digest at any string: what it returns, as a function of the bytes.
-/
import Derived.Test.YthogkcgklakibaaGreatDoorDigestD
import Derived.Laws.BytesArg
namespace Go.Proofs.YthogkcgklakibaaGreatDoor
open Go.RowKit

def fn64Step (z : Int) (c : UInt8) : Int := IntKind.u64.wrap (bits .xor .u64 z (c.toNat : Int) * 1099511628211)
def fn64To (L : List UInt8) (k : Nat) : Int := (L.take k).foldl fn64Step 14695981039346656037
theorem fn64To_succ (L : List UInt8) (k : Nat) (h : k < L.length) : fn64To L (k + 1) = fn64Step (fn64To L k) (L.getD k 0) := by
  unfold fn64To
  rw [List.take_succ_eq_append_getElem h, List.foldl_append]
  simp [h]
theorem u64_wrap_range (z : Int) : 0 ≤ IntKind.u64.wrap z ∧ IntKind.u64.wrap z < 18446744073709551616 := by
  have e : IntKind.u64.wrap z = z % 18446744073709551616 := by rfl
  rw [e]
  exact ⟨Int.emod_nonneg _ (by omega), Int.emod_lt_of_pos _ (by omega)⟩
theorem fn64To_range (L : List UInt8) : ∀ k, 0 ≤ fn64To L k ∧ fn64To L k < 18446744073709551616
  | 0 => by simp [fn64To]
  | k + 1 => by
    rcases Nat.lt_or_ge k L.length with h | h
    · rw [fn64To_succ L k h]
      exact u64_wrap_range _
    · have := fn64To_range L k
      have e : fn64To L (k + 1) = fn64To L k := by unfold fn64To; rw [List.take_of_length_le (by omega), List.take_of_length_le (by omega)]
      rw [e]; exact this
theorem u64_byte (c : UInt8) : IntKind.u64.wrap (c.toNat : Int) = (c.toNat : Int) := by
  have e : IntKind.u64.wrap (c.toNat : Int) = (c.toNat : Int) % 18446744073709551616 := by rfl
  have := c.toNat_lt
  rw [e]
  exact Int.emod_eq_of_lt (by omega) (by omega)
theorem hexF_len : ∀ (f n : Nat) (T : List Int), (hexF f n T).length ≤ T.length + f
  | 0, n, T => by simp [hexF]
  | f + 1, n, T => by
    unfold hexF
    split
    · simp
    · have := hexF_len f (n / 16) (dig (n % 16) :: T)
      simp only [List.length_cons] at this
      omega
/-- The digits of a hash in base 16; what Digest returns. -/
def hexS (L : List UInt8) : ByteArray := strOfNums (hexF 16 (fn64To L L.length).toNat [])
def dgB (L : List UInt8) : ByteArray := ⟨(Lib.repeatL [48] (16 - (hexS L).size)).toArray⟩ ++ hexS L
theorem hexS_size (L : List UInt8) : (hexS L).size ≤ 16 := by
  unfold hexS
  rw [strOfNums_size]
  have := hexF_len 16 (fn64To L L.length).toNat []
  simpa using this
theorem dgB_size (L : List UInt8) : (dgB L).size = 16 := by
  have h := hexS_size L
  unfold dgB
  rw [ByteArray.size_append]
  have : (⟨(Lib.repeatL [48] (16 - (hexS L).size)).toArray⟩ : ByteArray).size = 16 - (hexS L).size := by
    show (Lib.repeatL [48] (16 - (hexS L).size)).toArray.size = _
    simp [Lib.repeatL_length]
  omega
set_option maxHeartbeats 1600000 in
set_option maxRecDepth 100000 in
theorem digest_any (s : ByteArray) (w : World) (hS : StandAt w) (hs : s.size ≤ 1000000) :
    Calls Tryz.prog 85 #[.string s] w fun e w' => e = .returned (.string (dgB s.data.toList)) ∧ Below w.heap.size w w' := by
  have hlen : s.data.toList.length = s.size := by simp
  have HLEN := Lib.hid hlen; clear hlen
  have HS := Lib.hid hS; clear hS
  go_enter Tryz.func85, Tryz.ntmps85
  go_wp2_with fail
  go_loopg [3, 8] s.size (fun gk v5 i wr => ∃ (k : Nat), Hid (k + gk = s.size) ∧ i = .int .i64 k ∧ v5 = .int .u64 (fn64To s.data.toList k) ∧ w = wr)
  case atStart => exact ⟨0, show 0 + s.size = _ by omega, rfl, rfl, rfl⟩
  case round =>
    obtain ⟨k, HK, rfl, rfl, rfl⟩ := hrel
    have hkn : k ≤ s.size := by have := HK.out; omega
    have hz := fn64To_range s.data.toList k
    by_cases hlt : k < s.size
    · have hkl : k < s.data.toList.length := by rw [HLEN.out]; exact hlt
      have HST := Lib.hid (fn64To_succ s.data.toList k hkl)
      have hgd : s.data.toList.getD k 0 = s[k]'hlt := by
        rw [List.getD_eq_getElem?_getD, List.getElem?_eq_getElem hkl]; rfl
      rw [hgd] at HST
      generalize fn64To s.data.toList k = z at *
      clear hkl hgd
      go_wp2_with fail
      go_roundg (gk - 1)
      case measure => have := HK.out; omega
      case rel => exact ⟨k + 1, show k + 1 + (gk - 1) = _ by have := HK.out; omega, by go_num, by rw [HST.out]; unfold fn64Step; rw [u64_byte], rfl⟩
    · have hke : fn64To s.data.toList k = fn64To s.data.toList s.data.toList.length := by
        unfold fn64To
        rw [List.take_of_length_le (by rw [HLEN.out]; omega), List.take_of_length_le (Nat.le_refl _)]
      rw [hke] at hz ⊢
      have HXS : Hid (strOfNums (hexF 16 (fn64To s.data.toList s.data.toList.length).toNat []) = hexS s.data.toList) := rfl
      have HDG : Hid (dgB s.data.toList = ⟨(Lib.repeatL [48] (16 - (hexS s.data.toList).size)).toArray⟩ ++ hexS s.data.toList) := rfl
      have hxz := hexS_size s.data.toList
      generalize fn64To s.data.toList s.data.toList.length = F at *
      obtain ⟨f, rfl⟩ : ∃ f : Nat, F = (f : Int) := ⟨F.toNat, by omega⟩
      rw [Int.toNat_natCast] at HXS
      have HFU := Lib.hid (formatUint_any f (by omega) w HS.out)
      rw [HXS.out] at HFU
      generalize hexS s.data.toList = X at *
      clear hke
      go_wp2_with fail
      refine HFU.out.mono ?_
      rintro e w1 ⟨rfl, hb1⟩
      have HRP := Lib.hid (Tryz.strings_Repeat ⟨#[48]⟩ (16 - X.size) w1 (by omega) (by show 1 * _ ≤ _; omega))
      obtain ⟨c, hc⟩ : ∃ c, c = 16 - X.size := ⟨_, rfl⟩
      rw [← hc] at HRP HDG
      have hci : (16 : Int) - (X.size : Int) = (c : Int) := by omega
      have HB1 := Lib.hid hb1
      clear hb1 HFU hc
      go_wp2_with fail
      refine HRP.out.mono ?_
      rintro e w2 ⟨rfl, hb2⟩
      have HF2 : Hid (Below w.heap.size w w2) := HB1.out.trans (hb2.mono HB1.out.size)
      clear hb2 HRP
      have hrl : (Lib.repeatL [48] c).length = c := by simp [Lib.repeatL_length]
      have hrs : ¬ 9223372036854775807 < (Lib.repeatL [48] c).length + X.size := by omega
      go_wp2_with fail
      go_ret
      exact ⟨by rw [HDG.out]; rfl, HF2.out⟩
end Go.Proofs.YthogkcgklakibaaGreatDoor
