/-
  Memo makes some string of at most 500 bytes, or one of 20001 bytes.
-/
import Derived.Test.YtldngebikgendaaDoorMemo
namespace Go.Proofs.YtldngebikgendaaDoor
open Go.RowKit

def MemoPost2 (w : World) (g : Nat) (A : Option Addr) (n c K : Nat) (e : Ending) (w' : World) : Prop :=
  ∃ t : ByteArray, e = .returned (.string t) ∧ (t.size ≤ 500 ∨ t.size = 20001) ∧ StreamAt w' g A n c (K + 30) ∧ w.grownBy w' (some g)

set_option maxHeartbeats 800000 in
set_option maxRecDepth 100000 in
theorem memo2_any (g : Nat) (A : Option Addr) (n c K : Nat) (w : World) (hs : StreamAt w g A n c K) (hK : K ≤ 100000) :
    Calls Tryd.prog 5 #[.pointer (some ⟨g, 0, none⟩)] w (MemoPost2 w g A n c K) := by
  go_enter Tryd.func5, Tryd.ntmps5
  go_wp2_with fail
  refine (next_any g A n c K 10 w hs (by omega) (by omega)).mono ?_
  rintro e w1 ⟨N, rfl, h0, h1, hs1, hg1⟩
  have h1 := h1 (by omega)
  obtain ⟨N, rfl⟩ := Int.eq_ofNat_of_zero_le h0
  clear hs
  go_wp2_with fail
  go_loopw [3, 6] (fun t i wr => ∃ (k : Nat) (s : ByteArray), k ≤ N ∧ i = .int .i64 k ∧ t = .string s ∧ s.size ≤ 40 * k ∧ StreamAt wr g A n c (K + 1 + 2 * k) ∧ w.grownBy wr (some g)) (fun _ i _ => N - (intOf i).toNat)
  case atStart => exact ⟨0, ⟨#[]⟩, Nat.zero_le _, rfl, rfl, by simp [ByteArray.size], hs1, hg1⟩
  case round =>
    obtain ⟨k, s, hk, rfl, rfl, hsz, hsr, hgr⟩ := hrel
    by_cases hlt : k < N
    · have hgl := hsr.lt
      go_wp2_with fail
      refine (one_any g A n c (K + 1 + 2 * k) memoWords wr.heap.size 10 10 _ (hsr.alloc _) (by omega) rfl (by omega) (by omega) (by omega) (fun j hj => cells_strings wr memoWords _ j hj)).mono ?_
      rintro e w2 ⟨r1, rfl, hr1, hs2, hg2⟩
      have hr1 := memoWords_le r1 hr1
      have hgl2 := hs2.lt
      go_wp2_with fail
      refine (one_any g A n c (K + 1 + 2 * k + 1) memoSeps w2.heap.size 5 5 _ (hs2.alloc _) (by omega) rfl (by omega) (by omega) (by omega) (fun j hj => cells_strings w2 memoSeps _ j hj)).mono ?_
      rintro e w3 ⟨r2, rfl, hr2, hs3, hg3⟩
      have hr2 := memoSeps_le r2 hr2
      have hgf : w.grownBy w3 (some g) := grown_trans (grown_alloc (grown_trans (grown_alloc hgr _) hg2) _) hg3
      go_wp2_with fail
      go_roundw
      case rel => exact ⟨k + 1, _, by omega, by go_num, rfl, by simp; omega, hs3, hgf⟩
      case measure => simp [intOf]; omega
    · have hkN : k < 10 := by omega
      clear hs1 hg1 h1
      go_upto_region 6 with (fail)
      go_cut [24] (fun v wx => ∃ b : Bool, v = .bool b ∧ StreamAt wx g A n c (K + 25) ∧ w.grownBy wx (some g))
      case first =>
        go_wp2_with (go_at_call 19; refine (flip_any g A n c _ 12 _ hsr (by omega) (by omega)).mono ?_; rintro e w2 ⟨r, rfl, hs2, hg2⟩)
        · go_meet
          exact ⟨_, rfl, hsr.more (by omega), hgr⟩
        · go_meet
          exact ⟨_, rfl, hs2.more (by omega), grown_trans hgr hg2⟩
      case rest =>
        obtain ⟨b, rfl, hs2, hg2⟩ := hcut
        clear hsr hgr
        go_upto_if 24 with (fail)
        go_cut [3] (fun v wx => ∃ t : ByteArray, v = .string t ∧ t.size ≤ 500 ∧ wx = wc)
        case first =>
          cases b
          · go_wp2_with fail
            go_meet
            exact ⟨_, rfl, by omega, rfl⟩
          · go_wp2_with fail
            go_meet
            exact ⟨_, rfl, size_nl s (by omega), rfl⟩
        case rest =>
          obtain ⟨t, rfl, ht, rfl⟩ := hcut
          go_wp2_with fail
          refine (flip_any g A n c _ 20 _ hs2 (by omega) (by omega)).mono ?_
          rintro e w3 ⟨r, rfl, hs3, hg3⟩
          cases r
          · go_wp2_with fail
            go_ret
            exact ⟨t, rfl, .inl ht, hs3.more (by omega), grown_trans hg2 hg3⟩
          · go_wp2_with fail
            refine (Tryd.strings_Repeat _ 20000 _ (by omega) (by decide)).mono ?_
            rintro e w4 ⟨rfl, hb4⟩
            have hs4 := hs3.below hb4
            have hg4 := grown_below (grown_trans hg2 hg3) hb4
            go_wp2_with fail
            generalize hbig : (⟨(Lib.repeatL [109] 20000).toArray⟩ : ByteArray) ++ ⟨#[10]⟩ = big
            have hbs : big.size = 20001 := by rw [← hbig, big_size]
            clear hbig
            refine (one_any g A n c _ [⟨#[97, 9, 98, 10]⟩, ⟨#[255, 10]⟩, big] w4.heap.size 3 3 _ (hs4.alloc _) (by omega) rfl (by omega) (by omega) (by have := hs4.lt; omega) (fun j hj => cells_strings w4 [⟨#[97, 9, 98, 10]⟩, ⟨#[255, 10]⟩, big] _ j hj)).mono ?_
            rintro e w5 ⟨r, rfl, hr, hs5, hg5⟩
            have hrs : r.size ≤ 500 ∨ r.size = 20001 := by
              simp at hr
              rcases hr with rfl | rfl | rfl
              · decide
              · decide
              · omega
            clear hr
            go_wp2_with fail
            go_ret
            exact ⟨r, rfl, hrs, hs5.more (by omega), grown_trans (grown_alloc hg4 _) hg5⟩

end Go.Proofs.YtldngebikgendaaDoor
