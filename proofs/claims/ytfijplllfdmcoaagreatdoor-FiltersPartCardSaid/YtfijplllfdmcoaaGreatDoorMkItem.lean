
/-
  What the makers of items make: strings and numbers that are not too large.
-/
import Derived.Test.YtfijplllfdmcoaaGreatDoorRange
import Derived.Test.YtfijplllfdmcoaaGreatDoorItemFault
import Derived.Test.YtfijplllfdmcoaaGreatDoorShelf
import Derived.Deep.DeepCutAuto
namespace Go.Proofs.YtfijplllfdmcoaaGreatDoor
open Go.RowKit

def SizePost (w : World) (g : Nat) (A : Option Addr) (n c K S : Nat) (e : Ending) (w' : World) : Prop :=
  ∃ r : ByteArray, e = .returned (.string r) ∧ r.size ≤ S ∧ StreamAt w' g A n c (K + 1) ∧ w.grownBy w' (some g)
set_option maxHeartbeats 400000 in
theorem some10_any (g : Nat) (A : Option Addr) (n c K S : Nat) (h m cap : Nat) (w : World) (hs : StreamAt w g A n c K) (hK : K ≤ 1000000)
    (hm1 : 1 ≤ m) (hm2 : m ≤ 1000) (hgh : g ≠ h) (hc : ∀ j, j < m → ∃ s : ByteArray, w.cell? ⟨h, j, none⟩ = some (.string s) ∧ s.size ≤ S) :
    Calls Tryz.prog 34 #[.pointer (some ⟨g, 0, none⟩), .slice (some ⟨h, 0, none⟩) m cap] w (SizePost w g A n c K S) := by
  have HC := Lib.hid hc; clear hc
  go_enter Tryz.func34, Tryz.ntmps34
  go_wp2_with fail
  refine (next_any g A n c K m w hs hK (by omega)).mono ?_
  rintro e w1 ⟨r, rfl, h0, h1, hs1, hg1⟩
  have h2 := h1 (by omega)
  clear h1
  obtain ⟨i, rfl⟩ := Int.eq_ofNat_of_zero_le h0
  obtain ⟨s, hcs, hsz⟩ := HC.out i (by omega)
  have hcell : w1.cell? ⟨h, i, none⟩ = some (.string s) := hg1.cell hcs (by simp; omega)
  go_wp2
  go_ret
  exact ⟨s, rfl, hsz, hs1, hg1⟩
set_option maxHeartbeats 400000 in
theorem pickI_any (g : Nat) (A : Option Addr) (n c K : Nat) (lo hi : Int) (h m cap : Nat) (w : World) (hs : StreamAt w g A n c K) (hK : K ≤ 1000000)
    (hm1 : 1 ≤ m) (hm2 : m ≤ 1000) (hgh : g ≠ h) (hc : ∀ j, j < m → ∃ z : Int, w.cell? ⟨h, j, none⟩ = some (.int .i64 z) ∧ lo ≤ z ∧ z ≤ hi) :
    Calls Tryz.prog 30 #[.pointer (some ⟨g, 0, none⟩), .slice (some ⟨h, 0, none⟩) m cap] w (RangeR w g A n c K lo hi) := by
  have HC := Lib.hid hc; clear hc
  go_enter Tryz.func30, Tryz.ntmps30
  go_wp2_with fail
  refine (next_any g A n c K m w hs hK (by omega)).mono ?_
  rintro e w1 ⟨r, rfl, h0, h1, hs1, hg1⟩
  have h2 := h1 (by omega)
  clear h1
  obtain ⟨i, rfl⟩ := Int.eq_ofNat_of_zero_le h0
  obtain ⟨s, hcs, hlo, hhi⟩ := HC.out i (by omega)
  have hcell : w1.cell? ⟨h, i, none⟩ = some (.int .i64 s) := hg1.cell hcs (by simp; omega)
  go_wp2
  go_ret
  exact ⟨s, rfl, hlo, hhi, hs1, hg1⟩
set_option maxHeartbeats 800000 in
theorem rangeB_any (g : Nat) (A : Option Addr) (n c K : Nat) (lo hi : Int) (w : World) (hs : StreamAt w g A n c K) (hK : K ≤ 1000000) (h0 : -100000000 ≤ lo) (h1 : lo ≤ hi) (h2 : hi ≤ 100000000) :
    Calls Tryz.prog 6 #[.pointer (some ⟨g, 0, none⟩), .int .i64 lo, .int .i64 hi] w (RangeR w g A n c K lo hi) := by
  have hni : ¬ hi < lo := by omega
  have e1 : IntKind.i64.wrap (hi - lo) = hi - lo := IntWalk.i64_in _ (by omega)
  have e2 : IntKind.i64.wrap (hi - lo + 1) = hi - lo + 1 := IntWalk.i64_in _ (by omega)
  go_enter Tryz.func6, Tryz.ntmps6
  go_wp2_with fail
  refine (next_any g A n c K (hi - lo + 1) w hs hK (by omega)).mono ?_
  rintro e w2 ⟨r, rfl, hr0, hr1, hs2, hg2⟩
  have hr1 := hr1 (by omega)
  have e3 : IntKind.i64.wrap (lo + r) = lo + r := IntWalk.i64_in _ (by omega)
  go_wp2_with fail
  go_ret
  exact ⟨lo + r, rfl, by omega, by omega, hs2, hg2⟩
def AnyIntPost (w : World) (g : Nat) (A : Option Addr) (n c K : Nat) (e : Ending) (w' : World) : Prop :=
  ∃ r : Int, e = .returned (.int .i64 r) ∧ StreamAt w' g A n c (K + 2) ∧ w.grownBy w' (some g)
set_option maxHeartbeats 800000 in
theorem odd10_any (g : Nat) (A : Option Addr) (n c K : Nat) (lo hi : Int) (w : World) (hs : StreamAt w g A n c K) (hK : K ≤ 100000) (h0 : 0 ≤ lo) (h1 : lo ≤ hi) (h2 : hi ≤ 5761439) :
    Calls Tryz.prog 33 #[.pointer (some ⟨g, 0, none⟩), .int .i64 lo, .int .i64 hi] w (AnyIntPost w g A n c K) := by
  have e1 : IntKind.i64.wrap (lo - 1) = lo - 1 := IntWalk.i64_in _ (by omega)
  have e2 : IntKind.i64.wrap (hi + 1) = hi + 1 := IntWalk.i64_in _ (by omega)
  go_enter Tryz.func33, Tryz.ntmps33
  go_wp2_with fail
  refine (flip_any g A n c K 12 w hs (by omega) (by omega)).mono ?_
  rintro e w1 ⟨r, rfl, hs1, hg1⟩
  have hgl := hs1.lt
  cases r with
  | true =>
    go_wp2_with fail
    refine (pickI_any g A n c (K + 1) (-1099511627776) 1099511627776 w1.heap.size 6 6 _ (hs1.alloc _) (by omega) (by omega) (by omega) (by omega) (fun j hj => ?_)).mono ?_
    · rw [World.cell?_alloc_at _ _ _ _ rfl]
      iterate 7 (first | (exfalso; omega) | (rcases j with _ | j; exact ⟨_, rfl, by omega, by omega⟩))
    rintro e w2 ⟨z, rfl, _, _, hs2, hg2⟩
    go_wp2_with fail
    go_ret
    exact ⟨z, rfl, hs2, grown_trans (grown_alloc hg1 _) hg2⟩
  | false =>
    go_wp2_with fail
    refine (rangeB_any g A n c (K + 1) lo hi w1 hs1 (by omega) (by omega) h1 (by omega)).mono ?_
    rintro e w2 ⟨z, rfl, _, _, hs2, hg2⟩
    go_wp2_with fail
    go_ret
    exact ⟨z, rfl, hs2, grown_trans hg1 hg2⟩
def TextPost (w : World) (g : Nat) (A : Option Addr) (n c K : Nat) (e : Ending) (w' : World) : Prop :=
  ∃ r : ByteArray, e = .returned (.string r) ∧ r.size ≤ 600 ∧ StreamAt w' g A n c (K + 60) ∧ w.grownBy w' (some g)
set_option maxHeartbeats 3200000 in
set_option maxRecDepth 100000 in
theorem itemText_any (g : Nat) (A : Option Addr) (n c K : Nat) (w : World) (hs : StreamAt w g A n c K) (hK : K ≤ 100000) :
    Calls Tryz.prog 67 #[.pointer (some ⟨g, 0, none⟩)] w (TextPost w g A n c K) := by
  have hgl := hs.lt
  go_enter Tryz.func67, Tryz.ntmps67
  go_wp2_with fail
  refine (pickI_any g A n c K 0 3 w.heap.size 5 5 _ (hs.alloc _) (by omega) (by omega) (by omega) (by omega) (fun j hj => ?_)).mono ?_
  · rw [World.cell?_alloc_at _ _ _ _ rfl]
    iterate 6 (first | (exfalso; omega) | (rcases j with _ | j; exact ⟨_, rfl, by omega, by omega⟩))
  rintro e w1 ⟨r, rfl, hr0, hr3, hs1, hg1⟩
  obtain ⟨N, rfl⟩ := Int.eq_ofNat_of_zero_le hr0
  have hN : N ≤ 3 := by omega
  have HS1 := Lib.hid hs1
  have HG1 : Hid (w.grownBy w1 (some g)) := grown_trans (grown_alloc (World.grownBy.refl _ _) _) hg1
  clear hs1 hg1 hs hr0 hr3 hgl
  go_wp2_with fail
  go_loopg [3, 8] N (fun gk v i wr => ∃ (k : Nat) (s : ByteArray), Hid (k + gk = N) ∧ i = .int .i64 k ∧ v = .string s ∧ Hid (s.size ≤ 200 * k) ∧ Hid (StreamAt wr g A n c (K + 1 + 15 * k)) ∧ Hid (w.grownBy wr (some g)))
  case atStart => exact ⟨0, ⟨#[]⟩, show 0 + N = N by omega, rfl, rfl, show _ ≤ _ by simp [ByteArray.size], HS1.out, HG1.out⟩
  case round =>
    obtain ⟨k, s, HK, rfl, rfl, HSZ, HS, HG⟩ := hrel
    clear HS1 HG1
    have hkN : k ≤ N := by have := HK.out; omega
    by_cases hlt : k < N
    · go_wp2_with fail
      refine (rangeR_any g A n c (K + 1 + 15 * k) 0 6 wr HS.out (by omega) (by omega) (by omega) (by omega)).mono ?_
      rintro e w2 ⟨r, rfl, hr0, hr6, hs2, hg2⟩
      obtain ⟨M, rfl⟩ := Int.eq_ofNat_of_zero_le hr0
      have hM : M ≤ 6 := by omega
      have HS2 := Lib.hid hs2
      have HG2 := Lib.hid (grown_trans HG.out hg2)
      have HGK := Lib.hid (show k < N → k + 1 + (gk - 1) = N ∧ 0 < gk by have := HK.out; omega)
      obtain ⟨ko, rfl⟩ : ∃ ko : Nat, ko = gk := ⟨_, rfl⟩
      clear hs2 hg2 HS HG hr0 hr6 HK
      go_wp2_with fail
      go_loopg [3, 12] M (fun gk v i wr => ∃ (j : Nat) (t : ByteArray), Hid (j + gk = M) ∧ i = .int .i64 j ∧ v = .string t ∧ Hid (t.size ≤ 200 * k + 20 * j) ∧ Hid (StreamAt wr g A n c (K + 1 + 15 * k + 1 + 2 * j)) ∧ Hid (w.grownBy wr (some g)))
      case atStart => exact ⟨0, s, show 0 + M = M by omega, rfl, rfl, HSZ.out, HS2.out, HG2.out⟩
      case round =>
        obtain ⟨j, t, HJ, rfl, rfl, HTZ, HS, HG⟩ := hrel
        clear HS2 HG2
        have hjM : j ≤ M := by have := HJ.out; omega
        have htz := HTZ.out
        have HJK := Lib.hid (show j < M → j + 1 + (gk - 1) = M ∧ 0 < gk by have := HJ.out; omega)
        clear HJ
        by_cases hlj : j < M
        · have hglr := HS.out.lt
          by_cases hj0 : 0 < j
          · have hji : (0 : Int) < (j : Int) := by omega
            go_wp2_with fail
            refine (some10_any g A n c _ 8 wr.heap.size 5 5 _ (HS.out.alloc _) (by omega) (by omega) (by omega) (by omega) (fun q hq => ?_)).mono ?_
            · rw [World.cell?_alloc_at _ _ _ _ rfl]
              iterate 6 (first | (exfalso; omega) | (rcases q with _ | q; exact ⟨_, rfl, by decide⟩))
            rintro e w3 ⟨r1, rfl, hr1, hs3, hg3⟩
            have HS3 := Lib.hid hs3
            have HG3 := Lib.hid (grown_trans (grown_alloc HG.out _) hg3)
            have hgl3 := hs3.lt
            have p1 : ∀ (wx : World), (Op.stringOp .add t r1).run Tryz.prog wx = .ok (.string (t ++ r1)) wx := fun wx => run_string_add_sum wx _ _ (by show _ + _ ≤ _; omega)
            have hsz1 : (t ++ r1).size ≤ 200 * k + 20 * j + 8 := by rw [ByteArray.size_append]; omega
            clear hs3 hg3 HS HG
            go_wp2_with fail
            clear p1
            generalize t ++ r1 = t1 at *
            refine (some10_any g A n c _ 10 w3.heap.size 10 10 _ (HS3.out.alloc _) (by omega) (by omega) (by omega) (by omega) (fun q hq => ?_)).mono ?_
            · rw [World.cell?_alloc_at _ _ _ _ rfl]
              iterate 11 (first | (exfalso; omega) | (rcases q with _ | q; exact ⟨_, rfl, by decide⟩))
            rintro e w4 ⟨r2, rfl, hr2, hs4, hg4⟩
            have HG4 := Lib.hid (grown_trans (grown_alloc HG3.out _) hg4)
            have HS4 : Hid (StreamAt w4 g A n c (K + 1 + 15 * k + 1 + 2 * (j + 1))) := hs4.more (by omega)
            have p1 : ∀ (wx : World), (Op.stringOp .add t1 r2).run Tryz.prog wx = .ok (.string (t1 ++ r2)) wx := fun wx => run_string_add_sum wx _ _ (by show _ + _ ≤ _; omega)
            have HSZ2 : Hid ((t1 ++ r2).size ≤ 200 * k + 20 * (j + 1)) := by show _ ≤ _; rw [ByteArray.size_append]; omega
            clear hs4 hg4 HS3 HG3
            go_wp2_with fail
            go_roundg (gk - 1)
            case measure => exact Nat.sub_lt (HJK.out hlj).2 Nat.one_pos
            case rel => exact ⟨j + 1, t1 ++ r2, (HJK.out hlj).1, by go_num, rfl, HSZ2.out, HS4.out, HG4.out⟩
          · have hji : ¬ (0 : Int) < (j : Int) := by omega
            go_wp2_with fail
            refine (some10_any g A n c _ 10 wr.heap.size 10 10 _ (HS.out.alloc _) (by omega) (by omega) (by omega) (by omega) (fun q hq => ?_)).mono ?_
            · rw [World.cell?_alloc_at _ _ _ _ rfl]
              iterate 11 (first | (exfalso; omega) | (rcases q with _ | q; exact ⟨_, rfl, by decide⟩))
            rintro e w4 ⟨r2, rfl, hr2, hs4, hg4⟩
            have HG4 := Lib.hid (grown_trans (grown_alloc HG.out _) hg4)
            have HS4 : Hid (StreamAt w4 g A n c (K + 1 + 15 * k + 1 + 2 * (j + 1))) := hs4.more (by omega)
            have p1 : ∀ (wx : World), (Op.stringOp .add t r2).run Tryz.prog wx = .ok (.string (t ++ r2)) wx := fun wx => run_string_add_sum wx _ _ (by show _ + _ ≤ _; omega)
            have HSZ2 : Hid ((t ++ r2).size ≤ 200 * k + 20 * (j + 1)) := by show _ ≤ _; rw [ByteArray.size_append]; omega
            clear hs4 hg4 HS HG
            go_wp2_with fail
            go_roundg (gk - 1)
            case measure => exact Nat.sub_lt (HJK.out hlj).2 Nat.one_pos
            case rel => exact ⟨j + 1, t ++ r2, (HJK.out hlj).1, by go_num, rfl, HSZ2.out, HS4.out, HG4.out⟩
        · have hnj : ¬ (j : Int) < (M : Int) := by omega
          have p1 : ∀ (wx : World), (Op.stringOp .add t ⟨#[10]⟩).run Tryz.prog wx = .ok (.string (t ++ ⟨#[10]⟩)) wx := fun wx => run_string_add_sum wx _ _ (by show _ + 1 ≤ _; omega)
          have HSZ2 : Hid ((t ++ (⟨#[10]⟩ : ByteArray)).size ≤ 200 * (k + 1)) := by show _ ≤ _; rw [ByteArray.size_append]; show _ + 1 ≤ _; omega
          have HS4 : Hid (StreamAt wr g A n c (K + 1 + 15 * (k + 1))) := HS.out.more (by omega)
          go_wp2_with fail
          go_roundg (ko - 1)
          case measure => exact Nat.sub_lt (HGK.out hlt).2 Nat.one_pos
          case rel => exact ⟨k + 1, t ++ (⟨#[10]⟩ : ByteArray), (HGK.out hlt).1, by go_num, rfl, HSZ2.out, HS4.out, HG.out⟩
    · have hnk : ¬ (k : Int) < (N : Int) := by omega
      go_wp2_with fail
      go_ret
      exact ⟨s, rfl, by have := HSZ.out; omega, HS.out.more (by omega), HG.out⟩
end Go.Proofs.YtfijplllfdmcoaaGreatDoor
