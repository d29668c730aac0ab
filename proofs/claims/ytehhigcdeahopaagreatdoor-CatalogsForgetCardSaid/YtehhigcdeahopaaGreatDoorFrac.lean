
/-
  What the comparison of strings, shared, fraction and like return.
-/
import Derived.Test.YtehhigcdeahopaaGreatDoorStrLib
import Derived.Test.YtehhigcdeahopaaGreatDoorFracPlain
namespace Go.Proofs.YtehhigcdeahopaaGreatDoor
open Go.RowKit

set_option maxHeartbeats 400000 in
theorem isNaN_any (s : ByteArray) (w : World) : Calls Tryz.prog 133 #[.string s] w fun e w' => e = .returned (.bool false) ∧ w' = w := by
  go_enter Tryz.func133, Tryz.ntmps133
  go_wp2_with fail
  go_ret
  exact ⟨by simp, rfl⟩
theorem less_not_both : ∀ (a b : List UInt8), Op.bytesLess a b = true → Op.bytesLess b a = false
  | [], [], h => by simp [Op.bytesLess] at h
  | [], _ :: _, _ => by simp [Op.bytesLess]
  | _ :: _, [], h => by simp [Op.bytesLess] at h
  | x :: a, y :: b, h => by
    simp only [Op.bytesLess, Bool.or_eq_true, decide_eq_true_eq, Bool.and_eq_true, beq_iff_eq] at h
    simp only [Op.bytesLess, Bool.or_eq_false_iff, decide_eq_false_iff_not, Bool.and_eq_false_imp, beq_iff_eq]
    rcases h with h | ⟨rfl, h⟩
    · exact ⟨fun h2 => absurd (UInt8.lt_trans h h2) (UInt8.lt_irrefl _), fun e => by subst e; exact absurd h (UInt8.lt_irrefl _)⟩
    · exact ⟨UInt8.lt_irrefl _, fun _ => less_not_both a b h⟩
theorem less_total : ∀ (a b : List UInt8), Op.bytesLess a b = false → Op.bytesLess b a = false → a = b
  | [], [], _, _ => rfl
  | [], _ :: _, h, _ => by simp [Op.bytesLess] at h
  | _ :: _, [], _, h => by simp [Op.bytesLess] at h
  | x :: a, y :: b, h1, h2 => by
    simp only [Op.bytesLess, Bool.or_eq_false_iff, decide_eq_false_iff_not, Bool.and_eq_false_imp, beq_iff_eq] at h1 h2
    have e : x = y := UInt8.le_antisymm (UInt8.not_lt.1 h2.1) (UInt8.not_lt.1 h1.1)
    subst e
    rw [less_total a b (h1.2 rfl) (h2.2 rfl)]

set_option maxHeartbeats 800000 in
theorem compareS_any (a b : List UInt8) (w : World) : Calls Tryz.prog 121 #[.string ⟨a.toArray⟩, .string ⟨b.toArray⟩] w fun e w' => e = .returned (.int .i64 (cmpS a b)) ∧ w' = w := by
  have hta : (⟨a.toArray⟩ : ByteArray).toList = a := by rw [Lib.toList_data]
  have htb : (⟨b.toArray⟩ : ByteArray).toList = b := by rw [Lib.toList_data]
  cases h1 : Op.bytesLess a b
  · cases h2 : Op.bytesLess b a
    · have he := less_total a b h1 h2
      subst he
      have HC : Hid (cmpS a a = 0) := by show _ = _; simp [cmpS, h1]
      go_enter Tryz.func121, Tryz.ntmps121
      go_wp2_with fail
      refine (isNaN_any _ _).mono ?_
      rintro e w' ⟨rfl, hw⟩
      obtain rfl := hw.symm
      go_wp2_with fail
      refine (isNaN_any _ _).mono ?_
      rintro e w' ⟨rfl, hw⟩
      obtain rfl := hw.symm
      go_wp2_with fail
      go_ret
      exact ⟨ret_int (by rw [HC.out]), rfl⟩
    · have HC : Hid (cmpS a b = 1) := by show _ = _; simp [cmpS, h1, h2]
      have hne : ¬ a = b := fun e => by subst e; rw [h1] at h2; cases h2
      have hnb : (a == b) = false := by simpa using hne
      go_enter Tryz.func121, Tryz.ntmps121
      go_wp2_with fail
      refine (isNaN_any _ _).mono ?_
      rintro e w' ⟨rfl, hw⟩
      obtain rfl := hw.symm
      go_wp2_with fail
      refine (isNaN_any _ _).mono ?_
      rintro e w' ⟨rfl, hw⟩
      obtain rfl := hw.symm
      go_wp2_with fail
      go_ret
      exact ⟨ret_int (by rw [HC.out]), rfl⟩
  · have HC : Hid (cmpS a b = -1) := by show _ = _; simp [cmpS, h1]
    go_enter Tryz.func121, Tryz.ntmps121
    go_wp2_with fail
    refine (isNaN_any _ _).mono ?_
    rintro e w' ⟨rfl, hw⟩
    obtain rfl := hw.symm
    go_wp2_with fail
    refine (isNaN_any _ _).mono ?_
    rintro e w' ⟨rfl, hw⟩
    obtain rfl := hw.symm
    go_wp2_with fail
    go_ret
    exact ⟨ret_int (by rw [HC.out]), rfl⟩

def SharedPost (w : World) (x y : List (List UInt8)) (e : Ending) (w' : World) : Prop := e = .returned (.int .i64 (sharedL x y : Nat)) ∧ Below w.heap.size w w'
set_option maxHeartbeats 1600000 in
set_option maxRecDepth 100000 in
theorem sharedS_any (A B : Option Addr) (n c m d : Nat) (x y : List (List UInt8)) (w : World) (hx : StrsAt w A n c x) (hy : StrsAt w B m d y) (hn : n ≤ 100000) (hm : m ≤ 100000) :
    Calls Tryz.prog 93 #[.slice A n c, .slice B m d] w (SharedPost w x y) := by
  have HX := Lib.hid hx.1
  have HY := Lib.hid hy.1
  go_enter Tryz.func93, Tryz.ntmps93
  go_wp2_with fail
  go_loopg [5, 6, 7] (n + m) (fun gk v5 v6 v7 wr => ∃ (s i j q : Nat), Hid (n + m ≤ i + j + gk) ∧ v5 = .int .i64 s ∧ v6 = .int .i64 i ∧ v7 = .int .i64 j ∧ i ≤ n ∧ j ≤ m ∧ s ≤ i ∧ Hid (s + sharedL (x.drop i) (y.drop j) = sharedL x y) ∧ w.drewN q = wr)
  case atStart => exact ⟨0, 0, 0, 0, show n + m ≤ 0 + 0 + (n + m) by omega, rfl, rfl, rfl, by omega, by omega, by omega, show _ = _ by simp, rfl⟩
  case round =>
    obtain ⟨s, i, j, q, HG, rfl, rfl, rfl, hin, hjm, hsi, HS, rfl⟩ := hrel
    by_cases h1 : i < n
    · by_cases h2 : j < m
      · obtain ⟨gx, ox, rfl, hgx, hcx⟩ := hx.str (by omega)
        obtain ⟨gy, oy, rfl, hgy, hcy⟩ := hy.str (by omega)
        have c1 : (w.drewN q).cell? ⟨gx, ox + i, none⟩ = some (.string ⟨(x.getD i []).toArray⟩) := hcx i h1
        have c2 : (w.drewN q).cell? ⟨gy, oy + j, none⟩ = some (.string ⟨(y.getD j []).toArray⟩) := hcy j h2
        have HXA : x[i]? = some (x.getD i []) := by have : i < x.length := by (have := HX.out; omega)
                                                    simp [this]
        have HYB : y[j]? = some (y.getD j []) := by have : j < y.length := by (have := HY.out; omega)
                                                    simp [this]
        have HST := Lib.hid (sharedL_drop HXA HYB)
        clear HXA HYB hcx hcy
        generalize x.getD i [] = a at *
        generalize y.getD j [] = b at *
        have hq2 : ∀ r, (w.drewN q).drewN r = w.drewN (q + r) := fun r => World.drewN_drewN w q r
        have HQ2 := Lib.hid hq2; clear hq2
        generalize w.drewN q = w2 at *
        go_wp2_with fail
        go_quiet ((go_at_call 121; with_reducible exact Calls.quiet_of_same (compareS_any a b _)))
        generalize cmpS a b = cc at *
        by_cases h3 : cc < 0
        · rw [if_pos h3] at HST
          go_wp2_with fail
          go_roundg (gk - 1)
          case measure => have := HG.out; omega
          case rel => exact ⟨s, i + 1, j, _, show n + m ≤ i + 1 + j + (gk - 1) by have := HG.out; omega, rfl, by go_num, rfl, by omega, by omega, by omega, show _ = _ by rw [← HS.out, HST.out], (HQ2.out _).symm⟩
        · rw [if_neg h3] at HST
          by_cases h4 : 0 < cc
          · rw [if_pos h4] at HST
            go_wp2_with fail
            go_roundg (gk - 1)
            case measure => have := HG.out; omega
            case rel => exact ⟨s, i, j + 1, _, show n + m ≤ i + (j + 1) + (gk - 1) by have := HG.out; omega, rfl, rfl, by go_num, by omega, by omega, by omega, show _ = _ by rw [← HS.out, HST.out], (HQ2.out _).symm⟩
          · rw [if_neg h4] at HST
            go_wp2_with fail
            go_roundg (gk - 1)
            case measure => have := HG.out; omega
            case rel => exact ⟨s + 1, i + 1, j + 1, _, show n + m ≤ i + 1 + (j + 1) + (gk - 1) by have := HG.out; omega, by go_num, by go_num, by go_num, by omega, by omega, by omega, show _ = _ by rw [← HS.out, HST.out]; omega, (HQ2.out _).symm⟩
      · have hje : y.drop j = [] := List.drop_of_length_le (by have := HY.out; omega)
        have HF : Hid (s = sharedL x y) := by show _ = _; rw [← HS.out, hje, sharedL_nil]; rfl
        clear hje
        go_wp2_with fail
        go_ret
        exact ⟨ret_int (by rw [← HF.out]), below_drewN (Below.refl _ _) _⟩
    · have hie : x.drop i = [] := List.drop_of_length_le (by have := HX.out; omega)
      have HF : Hid (s = sharedL x y) := by show _ = _; rw [← HS.out, hie, sharedL_nil']; rfl
      clear hie
      go_wp2_with fail
      go_ret
      exact ⟨ret_int (by rw [← HF.out]), below_drewN (Below.refl _ _) _⟩

def FracPost (w : World) (f : Nat × Nat) (e : Ending) (w' : World) : Prop := e = .returned (.agg #[.int .i64 (f.1 : Int), .int .i64 (f.2 : Int)]) ∧ Below w.heap.size w w'
set_option maxHeartbeats 1600000 in
set_option maxRecDepth 100000 in
theorem fraction_any (num den : Nat) (w : World) (hn : num ≤ 1000000) (hd : den ≤ 1000000) :
    Calls Tryz.prog 94 #[.int .i64 num, .int .i64 den] w (FracPost w (fracL num den)) := by
  by_cases h0 : den = 0
  · subst h0
    go_enter Tryz.func94, Tryz.ntmps94
    go_wp2_with fail
    exact bodyPost_ret (v := .agg #[.int .i64 1, .int .i64 1]) (by simp [results, Tryz.results94, go_sem]) rfl ⟨rfl, (Below.refl _ _).alloc (Nat.le_refl _) _⟩
  · have hd0 : ((den : Int) == 0) = false := by simp; omega
    have hgp := gcd_pos num den h0
    have hgl := gcd_le num den h0
    have HF : Hid (fracL num den = (num / Nat.gcd num den, den / Nat.gcd num den)) := by show _ = _; unfold fracL; rw [if_neg h0]
    go_enter Tryz.func94, Tryz.ntmps94
    go_wp2_with fail
    go_loopg [5, 6] (den + 1) (fun gk v5 v6 wr => ∃ (a b q : Nat), b < gk ∧ a ≤ 1000000 ∧ b ≤ 1000000 ∧ v5 = .int .i64 a ∧ v6 = .int .i64 b ∧ Hid (Nat.gcd a b = Nat.gcd num den) ∧ (w.alloc (.cells #[.int .i64 0, .int .i64 0] 57)).drewN q = wr)
    case atStart => exact ⟨num, den, 0, by omega, hn, hd, rfl, rfl, rfl, rfl⟩
    case round =>
      obtain ⟨a, b, q, hbg, ha, hb, rfl, rfl, HG, rfl⟩ := hrel
      have HBG := Lib.hid hbg; clear hbg
      by_cases hb0 : 0 < b
      · have hlt := Nat.mod_lt a hb0
        have hmod : (a : Int).tmod (b : Int) = ((a % b : Nat) : Int) := by rw [Int.tmod_eq_emod_of_nonneg (by omega)]; rfl
        have hbi : (0 : Int) < (b : Int) := by omega
        have hbn : ((b : Int) == 0) = false := by simp; omega
        have HGN : Hid (Nat.gcd b (a % b) = Nat.gcd num den) := by show _ = _; rw [← HG.out, Nat.gcd_comm a b, Nat.gcd_rec b a, Nat.gcd_comm]
        generalize hwg : w.alloc (.cells #[.int .i64 0, .int .i64 0] 57) = wg at *
        have HQ2 := Lib.hid (fun r => World.drewN_drewN wg q r)
        generalize hw2 : wg.drewN q = w2 at *
        clear hwg hw2
        go_wp2_with fail
        go_quiet (fail)
        go_wp2_with fail
        go_roundg b
        case measure => have := HBG.out; omega
        case rel => exact ⟨b, a % b, _, hlt, hb, by omega, rfl, by first | rfl | (rw [hmod]) | (congr 1), HGN.out, (HQ2.out _).symm⟩
      · obtain rfl : b = 0 := by omega
        have hga : a = Nat.gcd num den := by have := HG.out; rw [Nat.gcd_zero_right] at this; exact this
        have HGA := Lib.hid hga; clear hga
        have hap : 0 < a := by rw [HGA.out]; exact hgp
        have t1 : (num : Int).tdiv (a : Int) = ((num / a : Nat) : Int) := by rw [Int.tdiv_eq_ediv_of_nonneg (by omega)]; rfl
        have t2 : (den : Int).tdiv (a : Int) = ((den / a : Nat) : Int) := by rw [Int.tdiv_eq_ediv_of_nonneg (by omega)]; rfl
        have l1 := Nat.div_le_self num a
        have l2 := Nat.div_le_self den a
        have hai : ((a : Int) == 0) = false := by simp; omega
        have HF2 : Hid (fracL num den = (num / a, den / a)) := by show _ = _; rw [HF.out, HGA.out]
        generalize num / a = n1 at *
        generalize den / a = n2 at *
        have t3 : IntKind.i64.wrap (n1 : Int) = (n1 : Int) := IntWalk.i64_in _ (by omega)
        have t4 : IntKind.i64.wrap (n2 : Int) = (n2 : Int) := IntWalk.i64_in _ (by omega)
        go_wp2_with fail
        go_region
        go_wp2_with fail
        refine bodyPost_ret (v := .agg #[.int .i64 (n1 : Int), .int .i64 (n2 : Int)]) (by simp [results, Tryz.results94, go_sem]) rfl ⟨by rw [HF2.out], ?_⟩
        exact ((below_drewN ((Below.refl _ _).alloc (Nat.le_refl _) _) _).setCell (Nat.le_refl _) _).setCell (Nat.le_refl _) _

set_option maxHeartbeats 1600000 in
set_option maxRecDepth 100000 in
theorem likeS_any (A B : Option Addr) (n c m d : Nat) (x y : List (List UInt8)) (w : World) (hx : StrsAt w A n c x) (hy : StrsAt w B m d y) (hn : n ≤ 100000) (hm : m ≤ 100000) :
    Calls Tryz.prog 53 #[.slice A n c, .slice B m d] w (FracPost w (likeL x y)) := by
  have HX := Lib.hid hx.1
  have HY := Lib.hid hy.1
  have hle := sharedL_le _ x y (Nat.le_refl _)
  have hb0 : Below w.heap.size w (w.alloc (.cells #[.int .i64 0, .int .i64 0] 57)) := (Below.refl _ _).alloc (Nat.le_refl _) _
  have hx' := hx.keep hb0
  have hy' := hy.keep hb0
  have HB0 := Lib.hid hb0; clear hb0
  have hsx : sharedL x y ≤ n := by rw [HX.out]; exact hle.1
  have hsy : sharedL x y ≤ m := by rw [HY.out]; exact hle.2
  have HL : Hid (likeL x y = fracL (sharedL x y) (n + m - sharedL x y)) := by show _ = _; unfold likeL; rw [← HX.out, ← HY.out]
  clear hle hx hy
  go_enter Tryz.func53, Tryz.ntmps53
  go_wp2_with fail
  refine (sharedS_any A B n c m d x y _ hx' hy' hn hm).mono ?_
  rintro e w2 ⟨rfl, hb2⟩
  generalize sharedL x y = sh at *
  have hz2 := hb2.size
  have ec : (n : Int) + (m : Int) - (sh : Int) = ((n + m - sh : Nat) : Int) := by omega
  generalize hn3 : n + m - sh = n3 at *
  have hn3l : n3 ≤ 1000000 := by omega
  have ew : IntKind.i64.wrap (n3 : Int) = (n3 : Int) := IntWalk.i64_in _ (by omega)
  have e1 : IntKind.i64.wrap ((n : Int) + (m : Int)) = (n : Int) + (m : Int) := IntWalk.i64_in _ (by omega)
  have hshl : sh ≤ 1000000 := by omega
  clear hn3
  go_wp2_with fail
  refine (fraction_any sh n3 w2 hshl hn3l).mono ?_
  rintro e w3 ⟨rfl, hb3⟩
  have hr1 : (w.alloc (.cells #[.int .i64 0, .int .i64 0] 57)).heap[w.heap.size]? = some (.cells #[.int .i64 0, .int .i64 0] 57 (0, 0)) := heap_alloc_new w _
  have hr2 := (hb2.block _ (Array.getElem?_eq_some_iff.1 hr1).1).trans hr1
  have hr3 := (hb3.block _ (Array.getElem?_eq_some_iff.1 hr2).1).trans hr2
  have kc0 : w3.cell? ⟨w.heap.size, 0, none⟩ = some (.int .i64 0) := by rw [cell_of_row w3 w.heap.size 0 _ _ _ hr3]; rfl
  have kc1 : w3.cell? ⟨w.heap.size, 1, none⟩ = some (.int .i64 0) := by rw [cell_of_row w3 w.heap.size 1 _ _ _ hr3]; rfl
  have kf : ∀ j, w3.frozen? ⟨w.heap.size, j, none⟩ = false := fun j => by simp [World.frozen?, hr3]
  have kf0 := kf 0
  have kf1 := kf 1
  clear kf
  generalize hq : fracL sh n3 = q at *
  obtain ⟨q1, q2⟩ := q
  have HR := Lib.hid (HB0.out.trans (hb2.mono HB0.out.size) |>.trans (hb3.mono (Nat.le_trans HB0.out.size hz2)))
  clear hr1 hr2 hr3 hb2 hb3 hq
  simp only at *
  go_wp2_with fail
  refine bodyPost_ret (v := .agg #[.int .i64 (q1 : Int), .int .i64 (q2 : Int)]) (by simp [results, Tryz.results53, go_sem, kc0, kc1]) rfl ⟨by rw [HL.out], ?_⟩
  exact (HR.out.setCell (Nat.le_refl _) _).setCell (Nat.le_refl _) _

end Go.Proofs.YtehhigcdeahopaaGreatDoor
