
/-
  Parts of an address: words of small letters.
-/
import Derived.Test.YtmaimojpjepmjaaGreatDoorNoFeed
namespace Go.Proofs.YtmaimojpjepmjaaGreatDoor
open Go.RowKit

theorem in_yes (n lo hi : Int) (w : World) (h1 : lo ≤ n) (h2 : n ≤ hi) :
    Calls Tryz.prog 77 #[.int .i64 n, .int .i64 lo, .int .i64 hi] w fun e w' => e = .returned (.bool true) ∧ w' = w := by
  go_enter Tryz.func77, Tryz.ntmps77
  go_wp2_with fail
  go_ret
  exact ⟨ret_bool (by simp), rfl⟩
set_option maxHeartbeats 1600000 in
set_option maxRecDepth 100000 in
theorem all_small (s t : ByteArray) (hi : Nat) (w : World) (h0 : 1 ≤ s.size) (h1 : s.size ≤ hi) (h2 : hi ≤ 1000) (hs : ∀ k (h : k < s.size), 97 ≤ s[k].toNat ∧ s[k].toNat ≤ 122) :
    Calls Tryz.prog 154 #[.string s, .string t, .int .i64 1, .int .i64 (hi : Int)] w fun e w' => e = .returned (.bool true) ∧ w' = w := by
  have HS := Lib.hid hs
  clear hs
  go_enter Tryz.func154, Tryz.ntmps154
  go_wp2_with fail
  go_loopg [13] s.size (fun gk i wr => ∃ k : Nat, Hid (k + gk = s.size) ∧ i = .int .i64 (k : Int) ∧ wr = w)
  case atStart => exact ⟨0, show 0 + s.size = s.size by omega, rfl, rfl⟩
  case round =>
    obtain ⟨k, HK, rfl, rfl⟩ := hrel
    have hkn : k ≤ s.size := by have := HK.out; omega
    by_cases hlt : k < s.size
    · have hb := HS.out k hlt
      have hb1 : (97 : Int) ≤ (s[k].toNat : Int) := by omega
      have hb2 : (s[k].toNat : Int) ≤ 122 := by omega
      go_wp2_with fail
      go_roundg (gk - 1)
      case measure => have := HK.out; omega
      case rel => exact ⟨k + 1, show k + 1 + (gk - 1) = s.size by have := HK.out; omega, by go_num, rfl⟩
    · go_wp2_with fail
      refine (in_yes (s.size : Int) 1 (hi : Int) wr (by omega) (by omega)).mono ?_
      rintro e w2 ⟨rfl, rfl⟩
      go_wp2_with fail
      go_ret
      exact ⟨rfl, rfl⟩
end Go.Proofs.YtmaimojpjepmjaaGreatDoor
