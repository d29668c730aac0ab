
/-
  How much two rising lists of numbers share: what shared and like return at numbers.
-/
import Derived.Test.YtabdjkcediolcaaGreatDoorFrac
import Derived.Test.YtabdjkcediolcaaGreatDoorOrder
import Derived.Test.YtabdjkcediolcaaGreatDoorCat2
namespace Go.Proofs.YtabdjkcediolcaaGreatDoor
open Go.RowKit

theorem ElemsAt.int_ {w : World} {A : Option Addr} {n c : Nat} {l : List Int} (h : ElemsAt IntE w A n c l) (h0 : 0 < n) : ∃ g off, A = some ⟨g, off, none⟩ ∧ g < w.heap.size ∧ ∀ k, k < n → w.cell? ⟨g, off + k, none⟩ = some (.int .i64 (l.getD k 0)) := by
  obtain ⟨g, off, hA, hg, hc⟩ := h.2.2.2 h0
  refine ⟨g, off, hA, hg, fun k hk => ?_⟩
  have hl : k < l.length := by rw [← h.1]; exact hk
  have := hc k _ 0 (.int .i64 (l.getD k 0)) (List.getElem?_eq_getElem hl) (by simp [IntE, hl])
  simpa [IntE] using this
theorem getD_some {l : List Int} {i : Nat} (h : i < l.length) : l[i]? = some (l.getD i 0) := by simp [h]
def sharedZ : List Int → List Int → Nat
  | [], _ => 0
  | _ :: _, [] => 0
  | a :: xs, b :: ys => if cmpI a b < 0 then sharedZ xs (b :: ys) else if 0 < cmpI a b then sharedZ (a :: xs) ys else sharedZ xs ys + 1
termination_by x y => x.length + y.length
theorem sharedZ_nil (x : List Int) : sharedZ x [] = 0 := by cases x <;> simp [sharedZ]
theorem sharedZ_nil' (x : List Int) : sharedZ [] x = 0 := by simp [sharedZ]
theorem sharedZ_drop {x y : List Int} {i j : Nat} {s t : Int} (hx : x[i]? = some s) (hy : y[j]? = some t) :
    sharedZ (x.drop i) (y.drop j) = if cmpI s t < 0 then sharedZ (x.drop (i + 1)) (y.drop j) else if 0 < cmpI s t then sharedZ (x.drop i) (y.drop (j + 1)) else sharedZ (x.drop (i + 1)) (y.drop (j + 1)) + 1 := by
  obtain ⟨hl, rfl⟩ := List.getElem?_eq_some_iff.1 hx
  obtain ⟨hm, rfl⟩ := List.getElem?_eq_some_iff.1 hy
  rw [List.drop_eq_getElem_cons hl, List.drop_eq_getElem_cons hm, sharedZ]
theorem sharedZ_le : ∀ (n : Nat) (x y : List Int), x.length + y.length ≤ n → sharedZ x y ≤ x.length ∧ sharedZ x y ≤ y.length := by
  intro n
  induction n with
  | zero => intro x y h; cases x <;> cases y <;> simp_all [sharedZ]
  | succ n ih =>
    intro x y h
    cases x with
    | nil => rw [sharedZ_nil']; omega
    | cons a xs =>
      cases y with
      | nil => rw [sharedZ_nil]; simp
      | cons b ys =>
        simp only [List.length_cons] at h ⊢
        have h1 := ih xs (b :: ys) (by simp only [List.length_cons]; omega)
        have h2 := ih (a :: xs) ys (by simp only [List.length_cons]; omega)
        have h3 := ih xs ys (by omega)
        simp only [List.length_cons] at h1 h2
        rw [sharedZ]
        split
        · omega
        · split <;> omega

def likeZ (x y : List Int) : Nat × Nat := fracL (sharedZ x y) (x.length + y.length - sharedZ x y)

def SharedZPost (w : World) (x y : List Int) (e : Ending) (w' : World) : Prop := e = .returned (.int .i64 (sharedZ x y : Nat)) ∧ Below w.heap.size w w'
set_option maxHeartbeats 1600000 in
set_option maxRecDepth 100000 in
theorem sharedI_any (A B : Option Addr) (n c m d : Nat) (x y : List Int) (w : World) (hx : ElemsAt IntE w A n c x) (hy : ElemsAt IntE w B m d y) (hn : n ≤ 100000) (hm : m ≤ 100000) :
    Calls Tryz.prog 69 #[.slice A n c, .slice B m d] w (SharedZPost w x y) := by
  have HX := Lib.hid hx.1
  have HY := Lib.hid hy.1
  go_enter Tryz.func69, Tryz.ntmps69
  go_wp2_with fail
  go_loopg [5, 6, 7] (n + m) (fun gk v5 v6 v7 wr => ∃ (s i j q : Nat), Hid (n + m ≤ i + j + gk) ∧ v5 = .int .i64 s ∧ v6 = .int .i64 i ∧ v7 = .int .i64 j ∧ i ≤ n ∧ j ≤ m ∧ s ≤ i ∧ Hid (s + sharedZ (x.drop i) (y.drop j) = sharedZ x y) ∧ w.drewN q = wr)
  case atStart => exact ⟨0, 0, 0, 0, show n + m ≤ 0 + 0 + (n + m) by omega, rfl, rfl, rfl, by omega, by omega, by omega, show _ = _ by simp, rfl⟩
  case round =>
    obtain ⟨s, i, j, q, HG, rfl, rfl, rfl, hin, hjm, hsi, HS, rfl⟩ := hrel
    by_cases h1 : i < n
    · by_cases h2 : j < m
      · obtain ⟨gx, ox, rfl, hgx, hcx⟩ := hx.int_ (by omega)
        obtain ⟨gy, oy, rfl, hgy, hcy⟩ := hy.int_ (by omega)
        have c1 : (w.drewN q).cell? ⟨gx, ox + i, none⟩ = some (.int .i64 (x.getD i 0)) := hcx i h1
        have c2 : (w.drewN q).cell? ⟨gy, oy + j, none⟩ = some (.int .i64 (y.getD j 0)) := hcy j h2
        have HXA : x[i]? = some (x.getD i 0) := getD_some (by have := HX.out; omega)
        have HYB : y[j]? = some (y.getD j 0) := getD_some (by have := HY.out; omega)
        have HST := Lib.hid (sharedZ_drop HXA HYB)
        clear HXA HYB hcx hcy
        generalize x.getD i 0 = a at *
        generalize y.getD j 0 = b at *
        have hq2 : ∀ r, (w.drewN q).drewN r = w.drewN (q + r) := fun r => World.drewN_drewN w q r
        have HQ2 := Lib.hid hq2; clear hq2
        generalize w.drewN q = w2 at *
        go_wp2_with fail
        go_quiet ((go_at_call 96; with_reducible exact Calls.quiet_of_same (compareI_any a b _)))
        generalize cmpI a b = cc at *
        by_cases h3 : cc < 0
        · rw [if_pos h3] at HST
          go_wp2_with fail
          go_roundg (gk - 1)
          case measure => have := HG.out; omega
          case rel => exact ⟨s, i + 1, j, _, show n + m ≤ i + 1 + j + (gk - 1) by have := HG.out; omega, rfl, by go_num, rfl, by omega, by omega, by omega, show _ = _ by rw [← HS.out, HST.out], (HQ2.out _).symm⟩
        · rw [if_neg h3] at HST
          by_cases h4 : 0 < cc
          · rw [if_pos h4] at HST
            go_wp2_with fail
            go_roundg (gk - 1)
            case measure => have := HG.out; omega
            case rel => exact ⟨s, i, j + 1, _, show n + m ≤ i + (j + 1) + (gk - 1) by have := HG.out; omega, rfl, rfl, by go_num, by omega, by omega, by omega, show _ = _ by rw [← HS.out, HST.out], (HQ2.out _).symm⟩
          · rw [if_neg h4] at HST
            go_wp2_with fail
            go_roundg (gk - 1)
            case measure => have := HG.out; omega
            case rel => exact ⟨s + 1, i + 1, j + 1, _, show n + m ≤ i + 1 + (j + 1) + (gk - 1) by have := HG.out; omega, by go_num, by go_num, by go_num, by omega, by omega, by omega, show _ = _ by rw [← HS.out, HST.out]; omega, (HQ2.out _).symm⟩
      · have hje : y.drop j = [] := List.drop_of_length_le (by have := HY.out; omega)
        have HF : Hid (s = sharedZ x y) := by show _ = _; rw [← HS.out, hje, sharedZ_nil]; rfl
        clear hje
        go_wp2_with fail
        go_ret
        exact ⟨ret_int (by rw [← HF.out]), below_drewN (Below.refl _ _) _⟩
    · have hie : x.drop i = [] := List.drop_of_length_le (by have := HX.out; omega)
      have HF : Hid (s = sharedZ x y) := by show _ = _; rw [← HS.out, hie, sharedZ_nil']; rfl
      clear hie
      go_wp2_with fail
      go_ret
      exact ⟨ret_int (by rw [← HF.out]), below_drewN (Below.refl _ _) _⟩

set_option maxHeartbeats 1600000 in
set_option maxRecDepth 100000 in
theorem likeI_any (A B : Option Addr) (n c m d : Nat) (x y : List Int) (w : World) (hx : ElemsAt IntE w A n c x) (hy : ElemsAt IntE w B m d y) (hn : n ≤ 100000) (hm : m ≤ 100000) :
    Calls Tryz.prog 43 #[.slice A n c, .slice B m d] w (FracPost w (likeZ x y)) := by
  have HX := Lib.hid hx.1
  have HY := Lib.hid hy.1
  have hle := sharedZ_le _ x y (Nat.le_refl _)
  have hb0 : Below w.heap.size w (w.alloc (.cells #[.int .i64 0, .int .i64 0] 50)) := (Below.refl _ _).alloc (Nat.le_refl _) _
  have hx' := hx.keep hb0
  have hy' := hy.keep hb0
  have HB0 := Lib.hid hb0; clear hb0
  have hsx : sharedZ x y ≤ n := by rw [HX.out]; exact hle.1
  have hsy : sharedZ x y ≤ m := by rw [HY.out]; exact hle.2
  have HL : Hid (likeZ x y = fracL (sharedZ x y) (n + m - sharedZ x y)) := by show _ = _; unfold likeZ; rw [← HX.out, ← HY.out]
  clear hle hx hy
  go_enter Tryz.func43, Tryz.ntmps43
  go_wp2_with fail
  refine (sharedI_any A B n c m d x y _ hx' hy' hn hm).mono ?_
  rintro e w2 ⟨rfl, hb2⟩
  generalize sharedZ x y = sh at *
  have hz2 := hb2.size
  have ec : (n : Int) + (m : Int) - (sh : Int) = ((n + m - sh : Nat) : Int) := by omega
  generalize hn3 : n + m - sh = n3 at *
  have hn3l : n3 ≤ 1000000 := by omega
  have ew : IntKind.i64.wrap (n3 : Int) = (n3 : Int) := IntWalk.i64_in _ (by omega)
  have e1 : IntKind.i64.wrap ((n : Int) + (m : Int)) = (n : Int) + (m : Int) := IntWalk.i64_in _ (by omega)
  have hshl : sh ≤ 1000000 := by omega
  clear hn3
  go_wp2_with fail
  refine (fraction_any sh n3 w2 hshl hn3l).mono ?_
  rintro e w3 ⟨rfl, hb3⟩
  have hr1 : (w.alloc (.cells #[.int .i64 0, .int .i64 0] 50)).heap[w.heap.size]? = some (.cells #[.int .i64 0, .int .i64 0] 50 (0, 0)) := heap_alloc_new w _
  have hr2 := (hb2.block _ (Array.getElem?_eq_some_iff.1 hr1).1).trans hr1
  have hr3 := (hb3.block _ (Array.getElem?_eq_some_iff.1 hr2).1).trans hr2
  have kc0 : w3.cell? ⟨w.heap.size, 0, none⟩ = some (.int .i64 0) := by rw [cell_of_row w3 w.heap.size 0 _ _ _ hr3]; rfl
  have kc1 : w3.cell? ⟨w.heap.size, 1, none⟩ = some (.int .i64 0) := by rw [cell_of_row w3 w.heap.size 1 _ _ _ hr3]; rfl
  have kf : ∀ j, w3.frozen? ⟨w.heap.size, j, none⟩ = false := fun j => by simp [World.frozen?, hr3]
  have kf0 := kf 0
  have kf1 := kf 1
  clear kf
  generalize hq : fracL sh n3 = q at *
  obtain ⟨q1, q2⟩ := q
  have HR := Lib.hid (HB0.out.trans (hb2.mono HB0.out.size) |>.trans (hb3.mono (Nat.le_trans HB0.out.size hz2)))
  clear hr1 hr2 hr3 hb2 hb3 hq
  simp only at *
  go_wp2_with fail
  refine bodyPost_ret (v := .agg #[.int .i64 (q1 : Int), .int .i64 (q2 : Int)]) (by simp [results, Tryz.results43, go_sem, kc0, kc1]) rfl ⟨by rw [HL.out], ?_⟩
  exact (HR.out.setCell (Nat.le_refl _) _).setCell (Nat.le_refl _) _

theorem sharedZ_self : ∀ x : List Int, sharedZ x x = x.length
  | [] => by simp [sharedZ]
  | a :: x => by
    rw [sharedZ, show cmpI a a = 0 by simp [cmpI], if_neg (by omega), if_neg (by omega), sharedZ_self x]
    rfl
theorem likeZ_self (x : List Int) : likeZ x x = (1, 1) := by
  unfold likeZ fracL
  rw [sharedZ_self, show x.length + x.length - x.length = x.length by omega]
  split
  · rfl
  · rename_i h
    rw [Nat.gcd_self, Nat.div_self (by omega)]
theorem likeZ_le (x y : List Int) (hx : x.length ≤ 100000) (hy : y.length ≤ 100000) : (likeZ x y).1 ≤ 1000000 ∧ (likeZ x y).2 ≤ 1000000 := by
  have h := sharedZ_le _ x y (Nat.le_refl _)
  unfold likeZ fracL
  split
  · simp
  · have h1 := Nat.div_le_self (sharedZ x y) (Nat.gcd (sharedZ x y) (x.length + y.length - sharedZ x y))
    have h2 := Nat.div_le_self (x.length + y.length - sharedZ x y) (Nat.gcd (sharedZ x y) (x.length + y.length - sharedZ x y))
    simp only
    omega
end Go.Proofs.YtabdjkcediolcaaGreatDoor
