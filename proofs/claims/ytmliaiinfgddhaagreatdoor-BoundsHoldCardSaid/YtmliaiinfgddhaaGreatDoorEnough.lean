
/-
  What Enough returns.
-/
import Derived.Test.YtmliaiinfgddhaaGreatDoorMost
namespace Go.Proofs.YtmliaiinfgddhaaGreatDoor
open Go.RowKit
attribute [local go_sem ↓] Go.wp_at_zero Go.wp_at_succ

/-- The least sample with which not more may be missed, or none. -/
def EnoughPost (w : World) (N most num den : Nat) (e : Ending) (w' : World) : Prop :=
  ((∃ n : Nat, e = .returned (.tuple #[.int .i64 (n : Int), .int .i64 0]) ∧ 1 ≤ n ∧ n ≤ 60 ∧ n ≤ N ∧ mostV N n 0 num den ≤ most ∧ (2 ≤ n → most < mostV N (n - 1) 0 num den)) ∨ (e = .returned (.tuple #[.int .i64 0, .int .i64 16]) ∧ 2 ≤ N)) ∧ Below w.heap.size w w'
theorem mostV_all (N num den : Nat) : mostV N N 0 num den = 0 := by
  have := (most_spec (N := N) (s := N) (f := 0) (num := num) (den := den)).2.1
  omega
set_option maxHeartbeats 3200000 in
set_option maxRecDepth 100000 in
theorem enough_any (N most a b : Nat) (w : World) (hN0 : 1 ≤ N) (hN : N ≤ 2000) (hm : most ≤ N) (hb0 : 2 ≤ b) (hb : b ≤ 1000) (ha0 : 1 ≤ a) (ha : a < b) :
    Calls Tryz.prog 22 #[.int .i64 (N : Int), .int .i64 (most : Int), .agg #[.int .i64 (a : Int), .int .i64 (b : Int)]] w (EnoughPost w N most a b) := by
  have HL := Lib.hid (fun wx => checkLevel_ok a b wx hb0 hb ha0 ha)
  have HI1 : Hid (∀ w, Calls Tryz.prog 44 #[.int .i64 (N : Int), .int .i64 1, .int .i64 2000] w fun e w' => e = .returned (.bool true) ∧ w = w') := fun w => by
    have k := in_any (N : Int) 1 2000 w
    rw [inB_yes _ _ _ (by omega) (by omega)] at k
    exact k
  have HI2 : Hid (∀ w, Calls Tryz.prog 44 #[.int .i64 (most : Int), .int .i64 0, .int .i64 (N : Int)] w fun e w' => e = .returned (.bool true) ∧ w = w') := fun w => by
    have k := in_any (most : Int) 0 (N : Int) w
    rw [inB_yes _ _ _ (by omega) (by omega)] at k
    exact k
  have HM := Lib.hid (fun n wx (hn : n ≤ N) (hn6 : n ≤ 60) => most_any N n 0 a b wx hN (by omega) hn (Nat.zero_le _) (by omega) hb)
  go_enter Tryz.func22, Tryz.ntmps22
  go_upto_region 1 with (fail)
  have hq := heap_alloc_new w (.cells #[.int .i64 (a : Int), .int .i64 (b : Int)] 31)
  have hB : Below w.heap.size w (w.alloc (.cells #[.int .i64 (a : Int), .int .i64 (b : Int)] 31)) := (Below.refl _ _).alloc (Nat.le_refl _) _
  generalize w.alloc (.cells #[.int .i64 (a : Int), .int .i64 (b : Int)] 31) = w1 at *
  have HQ : Hid (BoxF w1 w.heap.size a b) := hq
  have HB := Lib.hid hB
  clear hq hB
  obtain ⟨b0, b1⟩ := HQ.out.c
  go_cut [8] (fun v wx => v = .int .i64 0 ∧ Below w1.heap.size w1 wx)
  case first =>
    have HHELD : Hid (∀ w', Below w1.heap.size w1 w' → w'.cell? ⟨w.heap.size, 0, none⟩ = some (.int .i64 (a : Int)) ∧ w'.cell? ⟨w.heap.size, 1, none⟩ = some (.int .i64 (b : Int)) ∧ Below w1.heap.size w1 w') := fun w' hw => by
      obtain ⟨x0, x1⟩ := (HQ.out.keep hw).c
      exact ⟨x0, x1, hw⟩
    go_region_held3 (fun w' => w'.cell? ⟨w.heap.size, 0, none⟩ = some (.int .i64 (a : Int)) ∧ w'.cell? ⟨w.heap.size, 1, none⟩ = some (.int .i64 (b : Int)) ∧ Below w1.heap.size w1 w')
      (first | assumption | exact HHELD.out _ ((Below.refl _ _).drew) | exact HHELD.out _ hx0 | exact HHELD.out _ (Below.refl _ _) | exact HHELD.out _ (hx0.alloc hx0.size _))
      (first
        | (go_at_call 44; (with_reducible refine Calls.mono (HI1.out _) ?_); rintro e wz ⟨rfl, hwz⟩; obtain rfl := hwz)
        | (go_at_call 44; (with_reducible refine Calls.mono (HI2.out _) ?_); rintro e wz ⟨rfl, hwz⟩; obtain rfl := hwz)
        | (go_at_call 43; (with_reducible refine Calls.mono (when_any false 1 _) ?_); rintro e wz ⟨rfl, hwz⟩; obtain rfl := hwz)
        | (go_at_call 45; (with_reducible refine Calls.mono (HL.out _) ?_); rintro e wx ⟨rfl, hbx⟩; have hx0 : Below w1.heap.size w1 wx := (by first | exact below_undrw hbx | exact hbx); clear hbx)
        | (go_at_call 27; (with_reducible refine Calls.mono (first_2n _ _ rfl _) ?_); rintro e wz ⟨rfl, hwz⟩; obtain rfl := hwz))
    all_goals
      go_wp2_with fail
      go_meet
      exact ⟨rfl, hx0.alloc hx0.size _⟩
  case rest =>
    obtain ⟨rfl, hbc⟩ := hcut
    have HB2 := Lib.hid (HB.out.trans (hbc.mono HB.out.size))
    have HQ2 := Lib.hid (HQ.out.keep hbc)
    clear hbc HB HQ b0 b1 HI1 HI2 HL
    generalize wc = w2 at *
    have hmx : ∃ K : Nat, K = min 60 N := ⟨_, rfl⟩
    obtain ⟨K, hK⟩ := hmx
    have hK1 : K ≤ 60 := by omega
    have hK2 : K ≤ N := by omega
    have HK := Lib.hid hK
    clear hK
    go_wp2_with fail
    go_loopg [9] K (fun gk v9 wr => ∃ p : Nat, Hid (p + gk = K + 1) ∧ 1 ≤ p ∧ v9 = .int .i64 (p : Int) ∧ Hid (2 ≤ p → most < mostV N (p - 1) 0 a b) ∧ Hid (Below w2.heap.size w2 wr))
    case atStart => exact ⟨1, show 1 + K = K + 1 by omega, Nat.le_refl _, rfl, (fun h => by omega), Below.refl _ _⟩
    case round =>
      obtain ⟨p, HG, hp1, rfl, HP, HB3⟩ := hrel
      have hpK : p ≤ K + 1 := by have := HG.out; omega
      obtain ⟨d0, d1⟩ := (HQ2.out.keep HB3.out).c
      by_cases hlt : p ≤ K
      · have hl6 : (p : Int) ≤ 60 := by omega
        have hlN : (p : Int) ≤ (N : Int) := by omega
        have HC := Lib.hid (HM.out p wr (by omega) (by omega))
        obtain ⟨M, hM⟩ : ∃ M, mostV N p 0 a b = M := ⟨_, rfl⟩
        rw [hM] at HC
        have HMV := Lib.hid hM
        clear hM
        go_wp2_with fail
        all_goals
          refine HC.out.mono ?_
          rintro e w5 ⟨rfl, hb5⟩
          have HB5 := Lib.hid (below_trans' HB3.out hb5)
          clear hb5
          by_cases hle : M ≤ most
          · have hlei : (M : Int) ≤ (most : Int) := by omega
            have HF : Hid (EnoughPost w N most a b (.returned (.tuple #[.int .i64 (p : Int), .int .i64 0])) w5) := ⟨.inl ⟨p, rfl, hp1, by omega, by omega, by rw [HMV.out]; exact hle, HP.out⟩, HB2.out.trans (HB5.out.mono HB2.out.size)⟩
            go_wp2_with fail
            go_ret2
            exact HF.out
          · have hlei : ¬ (M : Int) ≤ (most : Int) := by omega
            go_wp2_with fail
            go_roundg (gk - 1)
            case measure => have := HG.out; omega
            case rel => exact ⟨p + 1, show p + 1 + (gk - 1) = K + 1 by have := HG.out; omega, by omega, by go_num, (fun _ => by rw [Nat.add_sub_cancel, HMV.out]; omega), HB5.out⟩
      · have hpK' : p = K + 1 := by omega
        have HF : Hid (EnoughPost w N most a b (.returned (.tuple #[.int .i64 0, .int .i64 16])) wr) := by
          refine ⟨.inr ⟨rfl, ?_⟩, HB2.out.trans (HB3.out.mono HB2.out.size)⟩
          have hKK := HK.out
          rcases Nat.lt_or_ge N 2 with h | h
          · have hN1 : N = 1 := by omega
            have := HP.out (by omega)
            rw [hpK', show K = 1 by omega, hN1] at this
            rw [Nat.add_sub_cancel, mostV_all] at this
            omega
          · exact h
        have hl6 : ¬ ((p : Int) ≤ (N : Int) ∧ (p : Int) ≤ 60) := by have := HK.out; omega
        by_cases h60 : (N : Int) < 60
        · have hlN : ¬ (p : Int) ≤ (N : Int) := by have := HK.out; omega
          go_wp2_with fail
          go_ret2
          exact HF.out
        · have hlN : ¬ (p : Int) ≤ 60 := by have := HK.out; omega
          go_wp2_with fail
          go_ret2
          exact HF.out
end Go.Proofs.YtmliaiinfgddhaaGreatDoor
