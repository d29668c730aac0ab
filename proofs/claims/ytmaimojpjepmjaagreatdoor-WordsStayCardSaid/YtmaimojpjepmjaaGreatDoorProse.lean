
/-
  Prose makes some string of a few words; Changed makes a string that is at most four bytes longer.
-/
import Derived.Test.YtmaimojpjepmjaaGreatDoorElems
import Derived.Laws.Cover4
import Derived.Lib.Strings
namespace Go.Proofs.YtmaimojpjepmjaaGreatDoor
open Go.RowKit

def proseWords : List ByteArray := [⟨#[97]⟩, ⟨#[98]⟩, ⟨#[99]⟩, ⟨#[100]⟩, ⟨#[101]⟩, ⟨#[65]⟩, ⟨#[66]⟩, ⟨#[105, 116, 39, 115]⟩, ⟨#[195, 169]⟩, ⟨#[120, 44]⟩, ⟨#[57]⟩]
def proseSeps : List ByteArray := [⟨#[32]⟩, ⟨#[32]⟩, ⟨#[32]⟩, ⟨#[32, 32]⟩, ⟨#[10]⟩, ⟨#[10, 10]⟩, ⟨#[44, 32]⟩, ⟨#[]⟩]
theorem proseWords_le : ∀ s ∈ proseWords, s.size ≤ 4 := by decide +kernel
theorem proseSeps_le : ∀ s ∈ proseSeps, s.size ≤ 2 := by decide +kernel

def ProsePost (w : World) (g : Nat) (A : Option Addr) (n c K : Nat) (most : Nat) (e : Ending) (w' : World) : Prop :=
  ∃ t : ByteArray, e = .returned (.string t) ∧ t.size ≤ 6 * most ∧ StreamAt w' g A n c (K + 1 + 2 * most) ∧ w.grownBy w' (some g)

set_option maxHeartbeats 800000 in
set_option maxRecDepth 100000 in
theorem prose_any (g : Nat) (A : Option Addr) (n c K most : Nat) (w : World) (hs : StreamAt w g A n c K) (hK : K ≤ 100000) (hm : most ≤ 1000) :
    Calls Tryz.prog 13 #[.pointer (some ⟨g, 0, none⟩), .int .i64 most] w (ProsePost w g A n c K most) := by
  go_enter Tryz.func13, Tryz.ntmps13
  go_wp2_with fail
  refine (next_any g A n c K ((most : Int) + 1) w hs (by omega) (by omega)).mono ?_
  rintro e w1 ⟨N, rfl, h0, h1, hs1, hg1⟩
  have h1 := h1 (by omega)
  obtain ⟨N, rfl⟩ := Int.eq_ofNat_of_zero_le h0
  clear hs
  have hN : N ≤ most := by omega
  go_wp2_with fail
  go_loopw [5, 10] (fun t i wr => ∃ (k : Nat) (s : ByteArray), k ≤ N ∧ i = .int .i64 k ∧ t = .string s ∧ s.size ≤ 6 * k ∧ StreamAt wr g A n c (K + 1 + 2 * k) ∧ w.grownBy wr (some g)) (fun _ i _ => N - (intOf i).toNat)
  case atStart => exact ⟨0, ⟨#[]⟩, Nat.zero_le _, rfl, rfl, by simp [ByteArray.size], hs1, hg1⟩
  case round =>
    obtain ⟨k, s, hk, rfl, rfl, hsz, hsr, hgr⟩ := hrel
    by_cases hlt : k < N
    · have hgl := hsr.lt
      go_wp2_with fail
      refine (one_any g A n c (K + 1 + 2 * k) proseWords wr.heap.size 11 11 _ (hsr.alloc _) (by omega) rfl (by omega) (by omega) (by omega) (fun j hj => cells_strings wr proseWords _ j hj)).mono ?_
      rintro e w2 ⟨r1, rfl, hr1, hs2, hg2⟩
      have hr1 := proseWords_le r1 hr1
      have hgl2 := hs2.lt
      go_wp2_with fail
      refine (one_any g A n c (K + 1 + 2 * k + 1) proseSeps w2.heap.size 8 8 _ (hs2.alloc _) (by omega) rfl (by omega) (by omega) (by omega) (fun j hj => cells_strings w2 proseSeps _ j hj)).mono ?_
      rintro e w3 ⟨r2, rfl, hr2, hs3, hg3⟩
      have hr2 := proseSeps_le r2 hr2
      have hgf : w.grownBy w3 (some g) := grown_trans (grown_alloc (grown_trans (grown_alloc hgr _) hg2) _) hg3
      go_wp2_with fail
      go_roundw
      case rel => exact ⟨k + 1, _, by omega, by go_num, rfl, by simp; omega, hs3, hgf⟩
      case measure => simp [intOf]; omega
    · go_wp2_with fail
      go_ret
      exact ⟨s, rfl, by omega, hsr.more (by omega), hgr⟩

theorem StreamAt.drew_ {w : World} {g : Nat} {A : Option Addr} {n c K : Nat} (h : StreamAt w g A n c K) (q : Nat) : StreamAt (w.drewN q) g A n c K := h.keep fun _ _ => rfl
def ChangedPost (w : World) (g : Nat) (A : Option Addr) (n c K : Nat) (most : Nat) (e : Ending) (w' : World) : Prop :=
  ∃ t : ByteArray, e = .returned (.string t) ∧ t.size ≤ most ∧ StreamAt w' g A n c (K + 3) ∧ w.grownBy w' (some g)

theorem size_mid (a b c : ByteArray) : (a ++ b ++ c).size = a.size + b.size + c.size := by rw [ByteArray.size_append, ByteArray.size_append]
theorem size_ch (t : ByteArray) (i k m : Nat) (x : Int) (hi : i ≤ k) (hk : k ≤ t.size) : (t.extract 0 i ++ Utf8.encode x ++ t.extract k t.size).size ≤ max (t.size + 4) m := by
  have := encode_size_le x
  rw [size_mid]; simp only [ByteArray.size_extract]
  have h1 : min i t.size = i := by omega
  have h2 : min t.size t.size = t.size := by omega
  rw [h1, h2]; omega

set_option maxHeartbeats 1600000 in
set_option maxRecDepth 100000 in
theorem changed_any (g : Nat) (A : Option Addr) (n c K : Nat) (t v : ByteArray) (w : World) (hs : StreamAt w g A n c K) (hK : K ≤ 100000) (ht : t.size ≤ 1000000) (hv : v.size ≤ 100) (hv0 : 0 < v.size) :
    Calls Tryz.prog 39 #[.pointer (some ⟨g, 0, none⟩), .string t, .string v] w (ChangedPost w g A n c K (max (t.size + 4) v.size)) := by
  have hve : v.toList.isEmpty = false := by
    rw [Lib.toList_data]; cases h : v.data.toList with
    | nil => have : v.data.toList.length = v.size := by simp
             rw [h] at this; simp at this; omega
    | cons => rfl
  have hvn : ¬ v.toList = [] := by intro e; rw [e] at hve; cases hve
  by_cases h0 : t.size = 0
  · have hte : t.toList = [] := by
      rw [Lib.toList_data]; exact List.eq_nil_of_length_eq_zero (by simpa using h0)
    have htm : t.toList.isEmpty = true := by rw [hte]; rfl
    go_enter Tryz.func39, Tryz.ntmps39
    go_wp2_with fail
    go_ret
    exact ⟨v, rfl, Nat.le_max_right _ _, hs.more (by omega), World.grownBy.refl _ _⟩
  · have hte : t.toList.isEmpty = false := by
      rw [Lib.toList_data]; cases h : t.data.toList with
      | nil => have : t.data.toList.length = t.size := by simp
               rw [h] at this; simp at this; omega
      | cons => rfl
    have htn : ¬ t.toList = [] := by intro e; rw [e] at hte; cases hte
    go_enter Tryz.func39, Tryz.ntmps39
    go_wp2_with fail
    refine (next_any g A n c K t.size w hs (by omega) (by omega)).mono ?_
    rintro e w1 ⟨i, rfl, hi0, hi1, hs1, hg1⟩
    have hi1 := hi1 (by omega)
    obtain ⟨i, rfl⟩ := Int.eq_ofNat_of_zero_le hi0
    go_wp2_with fail
    refine (next_any g A n c (K + 1) v.size w1 hs1 (by omega) (by omega)).mono ?_
    rintro e w2 ⟨j, rfl, hj0, hj1, hs2, hg2⟩
    have hj1 := hj1 (by omega)
    obtain ⟨j, rfl⟩ := Int.eq_ofNat_of_zero_le hj0
    go_wp2_with fail
    refine (next_any g A n c (K + 2) 3 w2 hs2 (by omega) (by omega)).mono ?_
    rintro e w3 ⟨r, rfl, hr0, hr1, hs3, hg3⟩
    have hr1 := hr1 (by omega)
    have hgf : w.grownBy w3 (some g) := grown_trans (grown_trans hg1 hg2) hg3
    clear hs hs1 hs2 hg1 hg2 hg3
    have hw1 : IntKind.i64.wrap ((i : Int) + 1) = (i : Int) + 1 := IntWalk.i64_in _ (by omega)
    have hw2 : (0 : Int) ≤ (i : Int) + 1 := by omega
    have hw3 : ((i : Int) + 1).toNat = i + 1 := by omega
    have hi2 : i < t.size := by omega
    have s1 := slice_to t i (by omega)
    have s2 := slice_from t i (i : Int) rfl (by omega)
    have s3 := slice_from t (i + 1) ((i : Int) + 1) (by omega) (by omega)
    have he : ∀ x : Int, (Utf8.encode x).size ≤ 4 := encode_size_le
    have p1 : ∀ (x : Int) (wx : World), (Op.stringOp .add (t.extract 0 i) (Utf8.encode x)).run Tryz.prog wx = .ok (.string (t.extract 0 i ++ Utf8.encode x)) wx := fun x wx => run_string_add_sum wx _ _ (by have := he x; simp only [ByteArray.size_extract]; omega)
    have p2 : ∀ (x : Int) (wx : World), (Op.stringOp .add (t.extract 0 i ++ Utf8.encode x) (t.extract (i + 1) t.size)).run Tryz.prog wx = .ok (.string (t.extract 0 i ++ Utf8.encode x ++ t.extract (i + 1) t.size)) wx := fun x wx => run_string_add_sum wx _ _ (by have := he x; simp only [ByteArray.size_append, ByteArray.size_extract]; omega)
    have p3 : ∀ (x : Int) (wx : World), (Op.stringOp .add (t.extract 0 i ++ Utf8.encode x) (t.extract i t.size)).run Tryz.prog wx = .ok (.string (t.extract 0 i ++ Utf8.encode x ++ t.extract i t.size)) wx := fun x wx => run_string_add_sum wx _ _ (by have := he x; simp only [ByteArray.size_append, ByteArray.size_extract]; omega)
    have p4 : ∀ (wx : World), (Op.stringOp .add (t.extract 0 i) (t.extract (i + 1) t.size)).run Tryz.prog wx = .ok (.string (t.extract 0 i ++ t.extract (i + 1) t.size)) wx := fun wx => run_string_add_sum wx _ _ (by simp only [ByteArray.size_extract]; omega)
    clear he
    by_cases hr : r = 0
    · subst hr
      go_wp2_with fail
      go_quiet (fail)
      go_wp2_with fail
      go_ret
      exact ⟨_, rfl, size_ch t i _ _ _ (by omega) (by omega), hs3.drew_ _, grown_drewN hgf _⟩
    · by_cases hr2 : r = 1
      · subst hr2
        go_wp2_with fail
        go_quiet (fail)
        go_wp2_with fail
        go_ret
        exact ⟨_, rfl, size_ch t i _ _ _ (by omega) (by omega), hs3.drew_ _, grown_drewN hgf _⟩
      · have q0 : (r == 0) = false := by simpa using hr
        have q1 : (r == 1) = false := by simpa using hr2
        go_wp2_with fail
        go_quiet (fail)
        go_wp2_with fail
        go_ret
        exact ⟨_, rfl, by rw [ByteArray.size_append]; simp only [ByteArray.size_extract]; omega, hs3.drew_ _, grown_drewN hgf _⟩

end Go.Proofs.YtmaimojpjepmjaaGreatDoor
