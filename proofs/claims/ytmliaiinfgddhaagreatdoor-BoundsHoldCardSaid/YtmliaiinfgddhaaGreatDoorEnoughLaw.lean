
/-
  EnoughIsLeast returns true.
-/
import Derived.Test.YtmliaiinfgddhaaGreatDoorEnough
import Derived.Test.YtmliaiinfgddhaaGreatDoorRange
import Derived.Test.YtmliaiinfgddhaaGreatDoorStreamNew
namespace Go.Proofs.YtmliaiinfgddhaaGreatDoor
open Go.RowKit
attribute [local go_sem ↓] Go.wp_at_zero Go.wp_at_succ

/-- The packages' check returns true in each later world. -/
def StandsOk (w : World) : Prop := ∀ w', Below w.heap.size w w' → Calls Tryz.prog 18 #[] w' fun e w2 => e = .returned (.bool true) ∧ Below w'.heap.size w' w2
abbrev popZ : List Int := [1, 2, 5, 10, 30, 60, 100]
theorem pop_in {r : Int} (h : r ∈ popZ) : ∃ x : Nat, r = (x : Int) ∧ 1 ≤ x ∧ x ≤ 100 := by
  simp at h
  exact ⟨r.toNat, by omega, by omega, by omega⟩
theorem enough_20 (N most a : Nat) (w : World) (hN0 : 1 ≤ N) (hN : N ≤ 2000) (hm : most ≤ N) (ha0 : 1 ≤ a) (ha : a < 20) :
    Calls Tryz.prog 22 #[.int .i64 (N : Int), .int .i64 (most : Int), .agg #[.int .i64 (a : Int), .int .i64 20]] w (EnoughPost w N most a 20) :=
  enough_any N most a 20 w hN0 hN hm (by omega) (by omega) ha0 ha
theorem Most_20 (N s a : Nat) (w : World) (hN0 : 1 ≤ N) (hN : N ≤ 2000) (hs0 : 1 ≤ s) (hs : s ≤ 60) (hsN : s ≤ N) (ha0 : 1 ≤ a) (ha : a < 20) :
    Calls Tryz.prog 20 #[.agg #[.int .i64 (N : Int), .int .i64 (s : Int), .int .i64 0], .agg #[.int .i64 (a : Int), .int .i64 20]] w (PairPost w (mostV N s 0 a 20)) :=
  Most_any N s 0 a 20 w hN0 hN hs0 hs hsN (by omega) (by omega) (by omega) ha0 ha
set_option maxHeartbeats 3200000 in
set_option maxRecDepth 100000 in
theorem enoughLaw_any (A : Option Addr) (n c : Nat) (w : World) (hA : RowAt w A n) (hbig : n ≤ 1000000000000000) (hS : StandsOk w) :
    Calls Tryz.prog 5 #[.slice A n c] w (LawPost w) := by
  have hst := stream_new w A n c hA hbig
  have hB : Below w.heap.size w (w.alloc (.cells #[.slice A n c, .int .i64 0] 25)) := (Below.refl _ _).alloc (Nat.le_refl _) _
  have HS := Lib.hid hS; clear hS
  go_enter Tryz.func5, Tryz.ntmps5
  go_upto_region 2 with (fail)
  have hz1 : (w.alloc (.cells #[.slice A n c, .int .i64 0] 25)).heap.size = w.heap.size + 1 := by simp
  generalize w.alloc (.cells #[.slice A n c, .int .i64 0] 25) = w1 at *
  have HZ1 := Lib.hid hz1; clear hz1
  go_wp2_with fail
  refine (pick_any w.heap.size A n c 0 popZ w1.heap.size 7 7 _ (hst.below ((Below.refl _ _).alloc (Nat.le_refl _) _)) (by omega) rfl (by omega) (by omega) (by have := HZ1.out; omega) (fun j hj => pickR_cells w1 popZ 3 j hj)).mono ?_
  rintro e w2 ⟨r, rfl, hr, hs2, hg2⟩
  obtain ⟨N, rfl, hN1, hN2⟩ := pop_in hr
  have hB2 : Below w.heap.size w w2 := (hB.alloc hB.size _).grown hg2 (by have := HZ1.out; simp; omega) (fun i e => by have := Option.some.inj e; omega)
  clear hst hB hr hg2
  go_wp2_with fail
  refine (rangeR_any w.heap.size A n c _ 0 (N : Int) w2 hs2 (by omega) (by omega) (by omega) (by omega)).mono ?_
  rintro e w3 ⟨r, rfl, hm0, hm1, hs3, hg3⟩
  obtain ⟨M, rfl⟩ := Int.eq_ofNat_of_zero_le hm0
  have hB3 : Below w.heap.size w w3 := hB2.grown hg3 (by have := HZ1.out; have := hs2.lt; omega) (fun i e => by have := Option.some.inj e; omega)
  go_wp2_with fail
  refine (rangeR_any w.heap.size A n c _ 1 19 w3 hs3 (by omega) (by omega) (by omega) (by omega)).mono ?_
  rintro e w4 ⟨r, rfl, ha0, ha1, hs4, hg4⟩
  obtain ⟨a, rfl⟩ := Int.eq_ofNat_of_zero_le (show 0 ≤ r by omega)
  have hB4 : Below w.heap.size w w4 := hB3.grown hg4 (by have := hs3.lt; omega) (fun i e => by have := Option.some.inj e; omega)
  have HB4 := Lib.hid hB4
  clear hB2 hB3 hB4 hs2 hs3 hs4 hg3 hg4
  go_wp2_with fail
  have hq : BoxF (w4.alloc (.cells #[.int .i64 (a : Int), .int .i64 20] 31)) w4.heap.size a 20 := heap_alloc_new w4 _
  have hB5 : Below w.heap.size w (w4.alloc (.cells #[.int .i64 (a : Int), .int .i64 20] 31)) := HB4.out.alloc HB4.out.size _
  generalize w4.alloc (.cells #[.int .i64 (a : Int), .int .i64 20] 31) = w5 at *
  have HQ := Lib.hid hq
  have HB5 := Lib.hid hB5
  have hq4 := (Array.getElem?_eq_some_iff.1 hq).1
  generalize w4.heap.size = Q at *
  clear hq hB5 HB4
  refine (enough_20 N M a w5 hN1 (by omega) (by omega) (by omega) (by omega)).mono ?_
  rintro e w6 ⟨hcase, hb6⟩
  have HB6 := Lib.hid (HB5.out.trans (hb6.mono HB5.out.size))
  have HQ6 := Lib.hid (HQ.out.keep hb6)
  clear HB5 HQ hb6
  rcases hcase with ⟨m, rfl, hm1, hm60, hmN, hle, hgt⟩ | ⟨rfl, hN2'⟩
  · have HLE := Lib.hid hle
    have HGT := Lib.hid hgt
    clear hle hgt
    obtain ⟨b0, b1⟩ := HQ6.out.c
    go_wp2_with fail
    refine (Most_20 N m a w6 hN1 (by omega) hm1 hm60 hmN (by omega) (by omega)).mono ?_
    obtain ⟨V, hV⟩ : ∃ V, mostV N m 0 a 20 = V := ⟨_, rfl⟩
    rw [hV] at HLE ⊢
    rintro e w7 ⟨rfl, hb7⟩
    have hVle : (V : Int) ≤ (M : Int) := by have := HLE.out; omega
    have HB7 := Lib.hid (HB6.out.trans (hb7.mono HB6.out.size))
    have HQ7 := Lib.hid (HQ6.out.keep hb7)
    clear hb7 hV b0 b1
    by_cases h1 : m = 1
    · subst h1
      go_wp2_with fail
      refine (HS.out _ HB7.out).mono ?_
      rintro e w8 ⟨rfl, hb8⟩
      have HB8 := Lib.hid (HB7.out.trans (hb8.mono HB7.out.size))
      clear hb8
      go_wp2_with fail
      go_ret
      exact ⟨rfl, HB8.out⟩
    · have hq1 : ((m : Int) == 1) = false := by simp; omega
      obtain ⟨b0, b1⟩ := HQ7.out.c
      have e1 : (m : Int) - 1 = ((m - 1 : Nat) : Int) := by omega
      have HE := Lib.hid e1
      clear e1
      go_wp2_with fail
      rw [HE.out]
      refine (Most_20 N (m - 1) a w7 hN1 (by omega) (by omega) (by omega) (by omega) (by omega) (by omega)).mono ?_
      have hVg := HGT.out (by omega)
      generalize mostV N (m - 1) 0 a 20 = U at *
      rintro e w8 ⟨rfl, hb8⟩
      have hUg : (U : Int) > (M : Int) := by omega
      have HB8 := Lib.hid (HB7.out.trans (hb8.mono HB7.out.size))
      clear hb8 hVg HGT
      go_wp2_with fail
      refine (HS.out _ HB8.out).mono ?_
      rintro e w9 ⟨rfl, hb9⟩
      have HB9 := Lib.hid (HB8.out.trans (hb9.mono HB8.out.size))
      clear hb9
      go_wp2_with fail
      go_ret
      exact ⟨rfl, HB9.out⟩
  · have h2 : (N : Int) > 1 := by omega
    go_wp2_with fail
    refine (HS.out _ HB6.out).mono ?_
    rintro e w8 ⟨rfl, hb8⟩
    have HB8 := Lib.hid (HB6.out.trans (hb8.mono HB6.out.size))
    clear hb8
    go_wp2_with fail
    go_ret
    exact ⟨rfl, HB8.out⟩
end Go.Proofs.YtmliaiinfgddhaaGreatDoor
