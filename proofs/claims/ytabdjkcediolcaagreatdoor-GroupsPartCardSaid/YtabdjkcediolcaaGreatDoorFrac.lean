
/-
  What the comparison of strings, shared, fraction and like return.
-/
import Derived.Test.YtabdjkcediolcaaGreatDoorStrLib
import Derived.Test.YtabdjkcediolcaaGreatDoorFracPlain
namespace Go.Proofs.YtabdjkcediolcaaGreatDoor
open Go.RowKit

set_option maxHeartbeats 400000 in
theorem isNaN_any (s : ByteArray) (w : World) : Calls Tryz.prog 92 #[.string s] w fun e w' => e = .returned (.bool false) ∧ w' = w := by
  go_enter Tryz.func92, Tryz.ntmps92
  go_wp2_with fail
  go_ret
  exact ⟨by simp, rfl⟩
theorem less_not_both : ∀ (a b : List UInt8), Op.bytesLess a b = true → Op.bytesLess b a = false
  | [], [], h => by simp [Op.bytesLess] at h
  | [], _ :: _, _ => by simp [Op.bytesLess]
  | _ :: _, [], h => by simp [Op.bytesLess] at h
  | x :: a, y :: b, h => by
    simp only [Op.bytesLess, Bool.or_eq_true, decide_eq_true_eq, Bool.and_eq_true, beq_iff_eq] at h
    simp only [Op.bytesLess, Bool.or_eq_false_iff, decide_eq_false_iff_not, Bool.and_eq_false_imp, beq_iff_eq]
    rcases h with h | ⟨rfl, h⟩
    · exact ⟨fun h2 => absurd (UInt8.lt_trans h h2) (UInt8.lt_irrefl _), fun e => by subst e; exact absurd h (UInt8.lt_irrefl _)⟩
    · exact ⟨UInt8.lt_irrefl _, fun _ => less_not_both a b h⟩
theorem less_total : ∀ (a b : List UInt8), Op.bytesLess a b = false → Op.bytesLess b a = false → a = b
  | [], [], _, _ => rfl
  | [], _ :: _, h, _ => by simp [Op.bytesLess] at h
  | _ :: _, [], _, h => by simp [Op.bytesLess] at h
  | x :: a, y :: b, h1, h2 => by
    simp only [Op.bytesLess, Bool.or_eq_false_iff, decide_eq_false_iff_not, Bool.and_eq_false_imp, beq_iff_eq] at h1 h2
    have e : x = y := UInt8.le_antisymm (UInt8.not_lt.1 h2.1) (UInt8.not_lt.1 h1.1)
    subst e
    rw [less_total a b (h1.2 rfl) (h2.2 rfl)]

def SharedPost (w : World) (x y : List (List UInt8)) (e : Ending) (w' : World) : Prop := e = .returned (.int .i64 (sharedL x y : Nat)) ∧ Below w.heap.size w w'
def FracPost (w : World) (f : Nat × Nat) (e : Ending) (w' : World) : Prop := e = .returned (.agg #[.int .i64 (f.1 : Int), .int .i64 (f.2 : Int)]) ∧ Below w.heap.size w w'
set_option maxHeartbeats 1600000 in
set_option maxRecDepth 100000 in
theorem fraction_any (num den : Nat) (w : World) (hn : num ≤ 1000000) (hd : den ≤ 1000000) :
    Calls Tryz.prog 70 #[.int .i64 num, .int .i64 den] w (FracPost w (fracL num den)) := by
  by_cases h0 : den = 0
  · subst h0
    go_enter Tryz.func70, Tryz.ntmps70
    go_wp2_with fail
    exact bodyPost_ret (v := .agg #[.int .i64 1, .int .i64 1]) (by simp [results, Tryz.results70, go_sem]) rfl ⟨rfl, (Below.refl _ _).alloc (Nat.le_refl _) _⟩
  · have hd0 : ((den : Int) == 0) = false := by simp; omega
    have hgp := gcd_pos num den h0
    have hgl := gcd_le num den h0
    have HF : Hid (fracL num den = (num / Nat.gcd num den, den / Nat.gcd num den)) := by show _ = _; unfold fracL; rw [if_neg h0]
    go_enter Tryz.func70, Tryz.ntmps70
    go_wp2_with fail
    go_loopg [5, 6] (den + 1) (fun gk v5 v6 wr => ∃ (a b q : Nat), b < gk ∧ a ≤ 1000000 ∧ b ≤ 1000000 ∧ v5 = .int .i64 a ∧ v6 = .int .i64 b ∧ Hid (Nat.gcd a b = Nat.gcd num den) ∧ (w.alloc (.cells #[.int .i64 0, .int .i64 0] 50)).drewN q = wr)
    case atStart => exact ⟨num, den, 0, by omega, hn, hd, rfl, rfl, rfl, rfl⟩
    case round =>
      obtain ⟨a, b, q, hbg, ha, hb, rfl, rfl, HG, rfl⟩ := hrel
      have HBG := Lib.hid hbg; clear hbg
      by_cases hb0 : 0 < b
      · have hlt := Nat.mod_lt a hb0
        have hmod : (a : Int).tmod (b : Int) = ((a % b : Nat) : Int) := by rw [Int.tmod_eq_emod_of_nonneg (by omega)]; rfl
        have hbi : (0 : Int) < (b : Int) := by omega
        have hbn : ((b : Int) == 0) = false := by simp; omega
        have HGN : Hid (Nat.gcd b (a % b) = Nat.gcd num den) := by show _ = _; rw [← HG.out, Nat.gcd_comm a b, Nat.gcd_rec b a, Nat.gcd_comm]
        generalize hwg : w.alloc (.cells #[.int .i64 0, .int .i64 0] 50) = wg at *
        have HQ2 := Lib.hid (fun r => World.drewN_drewN wg q r)
        generalize hw2 : wg.drewN q = w2 at *
        clear hwg hw2
        go_wp2_with fail
        go_quiet (fail)
        go_wp2_with fail
        go_roundg b
        case measure => have := HBG.out; omega
        case rel => exact ⟨b, a % b, _, hlt, hb, by omega, rfl, by first | rfl | (rw [hmod]) | (congr 1), HGN.out, (HQ2.out _).symm⟩
      · obtain rfl : b = 0 := by omega
        have hga : a = Nat.gcd num den := by have := HG.out; rw [Nat.gcd_zero_right] at this; exact this
        have HGA := Lib.hid hga; clear hga
        have hap : 0 < a := by rw [HGA.out]; exact hgp
        have t1 : (num : Int).tdiv (a : Int) = ((num / a : Nat) : Int) := by rw [Int.tdiv_eq_ediv_of_nonneg (by omega)]; rfl
        have t2 : (den : Int).tdiv (a : Int) = ((den / a : Nat) : Int) := by rw [Int.tdiv_eq_ediv_of_nonneg (by omega)]; rfl
        have l1 := Nat.div_le_self num a
        have l2 := Nat.div_le_self den a
        have hai : ((a : Int) == 0) = false := by simp; omega
        have HF2 : Hid (fracL num den = (num / a, den / a)) := by show _ = _; rw [HF.out, HGA.out]
        generalize num / a = n1 at *
        generalize den / a = n2 at *
        have t3 : IntKind.i64.wrap (n1 : Int) = (n1 : Int) := IntWalk.i64_in _ (by omega)
        have t4 : IntKind.i64.wrap (n2 : Int) = (n2 : Int) := IntWalk.i64_in _ (by omega)
        go_wp2_with fail
        go_region
        go_wp2_with fail
        refine bodyPost_ret (v := .agg #[.int .i64 (n1 : Int), .int .i64 (n2 : Int)]) (by simp [results, Tryz.results70, go_sem]) rfl ⟨by rw [HF2.out], ?_⟩
        exact ((below_drewN ((Below.refl _ _).alloc (Nat.le_refl _) _) _).setCell (Nat.le_refl _) _).setCell (Nat.le_refl _) _

end Go.Proofs.YtabdjkcediolcaaGreatDoor
