
/-
  The maker of bodies of letters: a text of a few short lines.
-/
import Derived.Test.YtmaimojpjepmjaaGreatDoorUniPlain
import Derived.Test.YtmaimojpjepmjaaGreatDoorStreamNew
import Derived.Test.YtmaimojpjepmjaaGreatDoorRange
namespace Go.Proofs.YtmaimojpjepmjaaGreatDoor
open Go.RowKit

def bodyQuotes : List ByteArray := [⟨#[]⟩, ⟨#[]⟩, ⟨#[62, 32]⟩, ⟨#[62, 32]⟩, ⟨#[62, 32, 62, 32]⟩, ⟨#[62]⟩, ⟨#[62, 62, 32]⟩]
theorem bodyQuotes_ok : ∀ s ∈ bodyQuotes, pieceB s.data.toList = true ∧ s.data.toList.length ≤ 4 := by decide +kernel
def bodyWords : List ByteArray := [⟨#[98, 101, 32, 99, 97, 114, 101, 102, 117, 108]⟩, ⟨#[116, 104, 105, 115, 32, 105, 115, 32, 108, 101, 103, 97, 108, 32, 97, 100, 118, 105, 99, 101]⟩, ⟨#[108, 117, 110, 99, 104, 63]⟩, ⟨#[]⟩, ⟨#[32]⟩, ⟨#[66, 101, 32, 32, 67, 97, 114, 101, 102, 117, 108, 32]⟩, ⟨#[111, 110, 101, 32, 109, 111, 114, 101]⟩, ⟨#[112, 114, 105, 118, 105, 108, 101, 103, 101, 100, 32, 97, 110, 100, 32, 99, 111, 110, 102, 105, 100, 101, 110, 116, 105, 97, 108]⟩, ⟨#[195, 169, 116, 195, 169, 32, 108, 101, 103, 97, 108, 32, 97, 100, 118, 105, 99, 101]⟩]
theorem bodyWords_ok : ∀ s ∈ bodyWords, pieceB s.data.toList = true ∧ s.data.toList.length ≤ 27 := by decide +kernel
def bodyQuotes2 : List ByteArray := [⟨#[]⟩, ⟨#[62, 32]⟩]
theorem bodyQuotes2_ok : ∀ s ∈ bodyQuotes2, pieceB s.data.toList = true ∧ s.data.toList.length ≤ 2 := by decide +kernel
def bodySays : List ByteArray := [⟨#[66, 111, 32, 119, 114, 111, 116, 101, 58]⟩, ⟨#[79, 110, 32, 77, 111, 110, 100, 97, 121, 32, 65, 110, 110, 32, 119, 114, 111, 116, 101, 58]⟩, ⟨#[119, 114, 111, 116, 101, 58]⟩, ⟨#[67, 121, 32, 115, 99, 104, 114, 105, 101, 98, 58]⟩, ⟨#[45, 45, 45, 45, 45, 79, 114, 105, 103, 105, 110, 97, 108, 32, 77, 101, 115, 115, 97, 103, 101, 45, 45, 45, 45, 45]⟩]
theorem bodySays_ok : ∀ s ∈ bodySays, pieceB s.data.toList = true ∧ s.data.toList.length ≤ 26 := by decide +kernel

theorem size_list (t : ByteArray) : t.size = t.data.toList.length := rfl
def BodyPost (w : World) (g : Nat) (A : Option Addr) (n c K : Nat) (e : Ending) (w' : World) : Prop :=
  ∃ t : ByteArray, e = .returned (.string t) ∧ TextL t.data.toList 700 ∧ StreamAt w' g A n c (K + 100) ∧ w.grownBy w' (some g)
theorem join2 (t a b : ByteArray) : (t ++ (a ++ b ++ (⟨#[10]⟩ : ByteArray))).data.toList = t.data.toList ++ (a.data.toList ++ b.data.toList ++ [10]) := by
  simp [ByteArray.data_append]
set_option maxHeartbeats 1600000 in
set_option maxRecDepth 100000 in
theorem body_any (g : Nat) (A : Option Addr) (n c K : Nat) (w : World) (hs : StreamAt w g A n c K) (hK : K ≤ 100000) :
    Calls Tryz.prog 24 #[.pointer (some ⟨g, 0, none⟩)] w (BodyPost w g A n c K) := by
  go_enter Tryz.func24, Tryz.ntmps24
  go_wp2_with fail
  refine (next_any g A n c K 7 w hs (by omega) (by omega)).mono ?_
  rintro e w1 ⟨N, rfl, h0, h1, hs1, hg1⟩
  have h1 := h1 (by omega)
  obtain ⟨N, rfl⟩ := Int.eq_ofNat_of_zero_le h0
  clear hs
  have hN : N ≤ 6 := by omega
  have HS1 := Lib.hid hs1
  have HG1 := Lib.hid hg1
  clear hs1 hg1
  go_wp2_with fail
  go_loopg [3, 6] N (fun gk v i wr => ∃ (k : Nat) (t : ByteArray), Hid (k + gk = N) ∧ i = .int .i64 (k : Int) ∧ v = .string t ∧ Hid (TextL t.data.toList (100 * k)) ∧ Hid (StreamAt wr g A n c (K + 1 + 5 * k)) ∧ Hid (w.grownBy wr (some g)))
  case atStart => exact ⟨0, ⟨#[]⟩, show 0 + N = N by omega, rfl, rfl, textL_nil _, HS1.out, HG1.out⟩
  case round =>
    obtain ⟨k, t, HGK, rfl, rfl, HT, HST, HGR⟩ := hrel
    clear HS1 HG1
    have hkN : k ≤ N := by have := HGK.out; omega
    have hzt : t.size ≤ 700 := by have h1 := HT.out.len; rw [size_list]; omega
    by_cases hlt : k < N
    · have hgl := HST.out.lt
      go_wp2_with fail
      refine (one_any g A n c (K + 1 + 5 * k) bodyQuotes wr.heap.size 7 7 _ (HST.out.alloc _) (by omega) rfl (by omega) (by omega) (by omega) (fun j hj => cells_strings wr bodyQuotes _ j hj)).mono ?_
      rintro e w2 ⟨r1, rfl, hr1, hs2, hg2⟩
      have HR1 := Lib.hid (bodyQuotes_ok r1 hr1)
      have hz1 : r1.size ≤ 4 := by rw [size_list]; exact HR1.out.2
      have hgl2 := hs2.lt
      have HG2 := Lib.hid (grown_trans (grown_alloc HGR.out _) hg2)
      clear hr1 hg2
      go_wp2_with fail
      refine (one_any g A n c (K + 1 + 5 * k + 1) bodyWords w2.heap.size 9 9 _ (hs2.alloc _) (by omega) rfl (by omega) (by omega) (by omega) (fun j hj => cells_strings w2 bodyWords _ j hj)).mono ?_
      rintro e w3 ⟨r2, rfl, hr2, hs3, hg3⟩
      have HR2 := Lib.hid (bodyWords_ok r2 hr2)
      have hz2 : r2.size ≤ 27 := by rw [size_list]; exact HR2.out.2
      have HG3 := Lib.hid (grown_trans (grown_alloc HG2.out _) hg3)
      have HT3 : Hid (TextL (t ++ (r1 ++ r2 ++ (⟨#[10]⟩ : ByteArray))).data.toList (100 * k + 50)) := by
        show TextL _ _
        rw [join2]
        exact HT.out.more HR1.out.1 HR2.out.1 (by have := HR1.out.2; have := HR2.out.2; omega)
      have HST3 := Lib.hid hs3
      clear hr2 hg3 hs2 hs3 HG2 HR1 HR2 HGR HST
      go_wp2_with fail
      have hz3 : (t ++ (r1 ++ r2 ++ (⟨#[10]⟩ : ByteArray))).size ≤ 750 := by have h1 := HT3.out.len; rw [size_list]; omega
      generalize t ++ (r1 ++ r2 ++ (⟨#[10]⟩ : ByteArray)) = t3 at *
      clear HT hzt hz1 hz2
      refine (flip_any g A n c _ 5 w3 HST3.out (by omega) (by omega)).mono ?_
      rintro e w4 ⟨r, rfl, hs4, hg4⟩
      have HST4 := Lib.hid hs4
      have HG4 := Lib.hid (grown_trans HG3.out hg4)
      clear HG3 HST3 hs4 hg4
      cases r
      · go_wp2_with fail
        go_roundg (gk - 1)
        case measure => have := HGK.out; omega
        case rel => exact ⟨k + 1, t3, show k + 1 + (gk - 1) = N by have := HGK.out; omega, by go_num, rfl, HT3.out.wide (by omega), HST4.out.more (by omega), HG4.out⟩
      · have hgl4 := HST4.out.lt
        go_wp2_with fail
        refine (one_any g A n c _ bodyQuotes2 w4.heap.size 2 2 _ (HST4.out.alloc _) (by omega) rfl (by omega) (by omega) (by omega) (fun j hj => cells_strings w4 bodyQuotes2 _ j hj)).mono ?_
        rintro e w5 ⟨r1, rfl, hr1, hs5, hg5⟩
        have HR1 := Lib.hid (bodyQuotes2_ok r1 hr1)
        have hz1 : r1.size ≤ 2 := by rw [size_list]; exact HR1.out.2
        have hgl5 := hs5.lt
        have HG5 := Lib.hid (grown_trans (grown_alloc HG4.out _) hg5)
        clear hr1 hg5
        go_wp2_with fail
        refine (one_any g A n c _ bodySays w5.heap.size 5 5 _ (hs5.alloc _) (by omega) rfl (by omega) (by omega) (by omega) (fun j hj => cells_strings w5 bodySays _ j hj)).mono ?_
        rintro e w6 ⟨r2, rfl, hr2, hs6, hg6⟩
        have HR2 := Lib.hid (bodySays_ok r2 hr2)
        have hz2 : r2.size ≤ 26 := by rw [size_list]; exact HR2.out.2
        have HG6 := Lib.hid (grown_trans (grown_alloc HG5.out _) hg6)
        have HT6 : Hid (TextL (t3 ++ (r1 ++ r2 ++ (⟨#[10]⟩ : ByteArray))).data.toList (100 * k + 50 + 50)) := by
          show TextL _ _
          rw [join2]
          exact HT3.out.more HR1.out.1 HR2.out.1 (by have := HR1.out.2; have := HR2.out.2; omega)
        have HST6 := Lib.hid hs6
        clear hr2 hg6 hs5 hs6 HG5 HR1 HR2 HG4 HST4
        go_wp2_with fail
        go_roundg (gk - 1)
        case measure => have := HGK.out; omega
        case rel => exact ⟨k + 1, _, show k + 1 + (gk - 1) = N by have := HGK.out; omega, by go_num, rfl, HT6.out.wide (by omega), HST6.out.more (by omega), HG6.out⟩
    · go_wp2_with fail
      go_ret
      exact ⟨t, rfl, HT.out.wide (by omega), HST.out.more (by omega), HGR.out⟩
end Go.Proofs.YtmaimojpjepmjaaGreatDoor
