
/-
  What Allocate returns, its checks passed.
-/
import Derived.Test.YtmliaiinfgddhaaGreatDoorAlloc
import Derived.Test.YtmliaiinfgddhaaGreatDoorBase
namespace Go.Proofs.YtmliaiinfgddhaaGreatDoor
open Go.RowKit
attribute [local go_sem ↓] Go.wp_at_zero Go.wp_at_succ

theorem inB_ok (v : Nat) (h : v ≤ 2000) : inB (v : Int) 0 2000 = true := by
  unfold inB; simp; omega
theorem outside_any (v : Nat) (h : v ≤ 2000) (w : World) : Calls Tryz.prog 47 #[.int .i64 (v : Int)] w fun e w' => e = .returned (.bool false) ∧ w' = w := by
  have hi := in_any (v : Int) 0 2000 w
  rw [inB_ok v h] at hi
  go_enter Tryz.func47, Tryz.ntmps47
  go_wp2_with fail
  refine hi.mono ?_
  rintro e w' ⟨rfl, hw⟩
  obtain rfl := hw
  go_wp2_with fail
  go_ret
  exact ⟨rfl, rfl⟩
theorem many_ok (v : Nat) (h : v ≤ 2000) (w : World) : Calls Tryz.prog 48 #[.int .i64 (v : Int)] w fun e w' => e = .returned (.int .i64 0) ∧ w' = w := by
  have hi := in_any (v : Int) 0 2000 w
  rw [inB_ok v h] at hi
  go_enter Tryz.func48, Tryz.ntmps48
  go_wp2_with fail
  refine hi.mono ?_
  rintro e w' ⟨rfl, hw⟩
  obtain rfl := hw
  go_wp2_with fail
  refine (when_any false 1 w).mono ?_
  rintro e w' ⟨rfl, hw⟩
  obtain rfl := hw
  go_wp2_with fail
  go_ret
  exact ⟨rfl, rfl⟩
set_option maxHeartbeats 800000 in
set_option maxRecDepth 100000 in
theorem indexOut_any (A : Option Addr) (c : Nat) (L : List Nat) (w : World) (hA : ElemsAt IntE w A L.length c (natI L)) (hM : L.length < 1000) (hL : ∀ k, L.getD k 0 ≤ 2000) :
    Calls Tryz.prog 70 #[.slice A L.length c, .func (.func 47) #[] #[]] w fun e w' => e = .returned (.int .i64 (-1)) ∧ w' = w := by
  have HAI := Lib.hid hA.intc
  have HL := Lib.hid hL; clear hL hA
  have eg : ∀ args w, (callFunc 47 args).run Tryz.prog w = .ok (.enter 47 args) w := enters_of Tryz.func47 (by kernel_rfl) rfl
  go_enter Tryz.func70, Tryz.ntmps70
  go_wp2_with fail
  go_loopg [8] L.length (fun gk v wr => ∃ k : Nat, Hid (k + gk = L.length) ∧ v = .int .i64 (k : Int) ∧ w = wr)
  case atStart => exact ⟨0, show 0 + L.length = L.length by omega, rfl, rfl⟩
  case round =>
    obtain ⟨k, HK, rfl, rfl⟩ := hrel
    have hk := HK.out
    have hkL : k ≤ L.length := by omega
    clear hk
    by_cases hlt : k < L.length
    · obtain ⟨g, off, rfl, hg, hc⟩ := HAI.out k hlt
      rw [natI_get] at hc
      have ho := outside_any (L.getD k 0) (HL.out k) w
      generalize L.getD k 0 = z at *
      go_wp2_with fail
      refine ho.mono ?_
      rintro e w' ⟨rfl, hw⟩
      obtain rfl := hw
      go_wp2_with fail
      go_roundg (gk - 1)
      case measure => have := HK.out; omega
      case rel => exact ⟨k + 1, show k + 1 + (gk - 1) = _ by have := HK.out; omega, by go_num, rfl⟩
    · have hlt2 : ¬ (k : Int) < (L.length : Int) := by omega
      go_wp2_with fail
      go_ret
      exact ⟨rfl, rfl⟩
theorem containsOut_any (A : Option Addr) (c : Nat) (L : List Nat) (w : World) (hA : ElemsAt IntE w A L.length c (natI L)) (hM : L.length < 1000) (hL : ∀ k, L.getD k 0 ≤ 2000) :
    Calls Tryz.prog 46 #[.slice A L.length c, .func (.func 47) #[] #[]] w fun e w' => e = .returned (.bool false) ∧ w' = w := by
  have HI := Lib.hid (indexOut_any A c L w hA hM hL)
  clear hA hL
  generalize L.length = n at *
  go_enter Tryz.func46, Tryz.ntmps46
  go_wp2_with fail
  refine HI.out.mono ?_
  rintro e w' ⟨rfl, rfl⟩
  clear HI
  go_wp2_with fail
  go_ret
  exact ⟨rfl, rfl⟩
def AllocTopPost (w : World) (L : List Nat) (n : Nat) (e : Ending) (w' : World) : Prop := ∃ v G, e = .returned (.tuple #[v, .int .i64 0]) ∧ Owns IntE w' w.heap.size v (natI G) ∧ G.length = L.length ∧ (∀ k, G.getD k 0 ≤ L.getD k 0) ∧ G.sum = min L.sum n ∧ Below w.heap.size w w'
set_option maxHeartbeats 800000 in
set_option maxRecDepth 100000 in
theorem allocTop_any (A : Option Addr) (c n : Nat) (L : List Nat) (w : World) (hA : ElemsAt IntE w A L.length c (natI L)) (hn : n ≤ 2000) (hM : L.length < 20) (hL : ∀ k, L.getD k 0 ≤ 2000) (hs : L.sum ≤ 100000) :
    Calls Tryz.prog 23 #[.slice A L.length c, .int .i64 (n : Int)] w (AllocTopPost w L n) := by
  have HC := Lib.hid (containsOut_any A c L w hA (by omega) hL)
  have HN := Lib.hid (many_ok n hn)
  have HA := Lib.hid (allocate_any A c n L w hA hn hM hL hs)
  obtain ⟨M, hMe⟩ : ∃ M, M = L.length := ⟨_, rfl⟩
  rw [← hMe] at HC HA ⊢ hM
  clear hA hL hs hMe
  go_enter Tryz.func23, Tryz.ntmps23
  go_wp2_with fail
  refine HC.out.mono ?_
  rintro e w' ⟨rfl, hw⟩
  obtain rfl := hw
  go_wp2_with fail
  refine (HN.out w').mono ?_
  rintro e w' ⟨rfl, hw⟩
  obtain rfl := hw
  go_wp2_with fail
  refine HA.out.mono ?_
  rintro e w2 ⟨v, G, rfl, h1, h2, h3, h4, h5⟩
  have H1 : Hid (AllocTopPost w' L n (.returned (.tuple #[v, .int .i64 0])) w2) := ⟨v, G, rfl, h1, h2, h3, h4, h5⟩
  clear h1 h2 h3 h4 h5
  go_wp2_with fail
  go_ret2
  exact H1.out
end Go.Proofs.YtmliaiinfgddhaaGreatDoor
