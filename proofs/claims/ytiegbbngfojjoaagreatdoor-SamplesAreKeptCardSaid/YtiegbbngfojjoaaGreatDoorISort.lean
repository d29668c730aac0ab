
/-
  Indices sorted by what is left over at each, the most first: what SortStableFunc does with them.
-/
import Derived.Test.YtiegbbngfojjoaaGreatDoorOrder
import Derived.Test.YtiegbbngfojjoaaGreatDoorOwnSet
import Derived.Test.YtiegbbngfojjoaaGreatDoorShelf
import Derived.Sort.LotA
import Derived.RegionTactic
namespace Go.Proofs.YtiegbbngfojjoaaGreatDoor
open Go.RowKit Go.Sort Go.Shelf Go.Lib

/-- The sizes as they lie. -/
def SizesAt (w : World) (Pn Ps Pt : Nat) (A : Option Addr) (c n tot : Nat) (L : List Nat) : Prop :=
  w.cell? ⟨Pn, 0, none⟩ = some (.int .i64 (n : Int)) ∧ w.cell? ⟨Ps, 0, none⟩ = some (.slice A L.length c) ∧ w.cell? ⟨Pt, 0, none⟩ = some (.int .i64 (tot : Int)) ∧ ∀ k, k < L.length → ∃ g off, A = some ⟨g, off, none⟩ ∧ w.cell? ⟨g, off + k, none⟩ = some (.int .i64 ((L.getD k 0 : Nat) : Int))
def remN (n tot : Nat) (L : List Nat) (k : Nat) : Nat := n * L.getD k 0 % tot
set_option maxHeartbeats 800000 in
set_option maxRecDepth 100000 in
theorem cmpA_closure (x y Pn Ps Pt c n tot : Nat) (A : Option Addr) (L : List Nat) (W : World) (h : SizesAt W Pn Ps Pt A c n tot L) (hx : x < L.length) (hy : y < L.length) (ht : 0 < tot) (ht2 : tot ≤ 100000000) (hn : n ≤ 2000) (hL : ∀ k, L.getD k 0 ≤ 2000) :
    Calls Tryz.prog 139 #[.int .i64 (x : Int), .int .i64 (y : Int), .pointer (some ⟨Pn, 0, none⟩), .pointer (some ⟨Ps, 0, none⟩), .pointer (some ⟨Pt, 0, none⟩)] W fun e w' => e = .returned (.int .i64 ((remN n tot L y : Int) - (remN n tot L x : Int))) ∧ ∃ q, w' = W.drewN q := by
  obtain ⟨h1, h2, h3, h4⟩ := h
  obtain ⟨g, off, rfl, hx4⟩ := h4 x hx
  obtain ⟨g', off', e, hy4⟩ := h4 y hy
  cases e
  have lx := hL x
  have ly := hL y
  have mx : n * L.getD x 0 ≤ 2000 * 2000 := Nat.mul_le_mul hn lx
  have my : n * L.getD y 0 ≤ 2000 * 2000 := Nat.mul_le_mul hn ly
  have HX : Hid ((remN n tot L x : Int) = (n : Int) * ((L.getD x 0 : Nat) : Int) % (tot : Int)) := by show _ = _; unfold remN; simp
  have HY : Hid ((remN n tot L y : Int) = (n : Int) * ((L.getD y 0 : Nat) : Int) % (tot : Int)) := by show _ = _; unfold remN; simp
  have rx : remN n tot L x < tot := Nat.mod_lt _ ht
  have ry : remN n tot L y < tot := Nat.mod_lt _ ht
  have px : (n : Int) * ((L.getD x 0 : Nat) : Int) = ((n * L.getD x 0 : Nat) : Int) := by simp
  have py : (n : Int) * ((L.getD y 0 : Nat) : Int) = ((n * L.getD y 0 : Nat) : Int) := by simp
  have tx : ((n * L.getD x 0 : Nat) : Int).tmod (tot : Int) = (remN n tot L x : Int) := by rw [Int.tmod_eq_emod_of_nonneg (by omega)]; unfold remN; simp
  have ty : ((n * L.getD y 0 : Nat) : Int).tmod (tot : Int) = (remN n tot L y : Int) := by rw [Int.tmod_eq_emod_of_nonneg (by omega)]; unfold remN; simp
  rw [← px] at tx
  rw [← py] at ty
  have bx : (0 : Int) ≤ (n : Int) * ((L.getD x 0 : Nat) : Int) ∧ (n : Int) * ((L.getD x 0 : Nat) : Int) ≤ 4000000 := by rw [px]; omega
  have by_ : (0 : Int) ≤ (n : Int) * ((L.getD y 0 : Nat) : Int) ∧ (n : Int) * ((L.getD y 0 : Nat) : Int) ≤ 4000000 := by rw [py]; omega
  have bx1 := bx.1
  have bx2 := bx.2
  have by1 := by_.1
  have by2 := by_.2
  clear HX HY h4 hL px py mx my bx by_
  generalize L.getD x 0 = a at *
  generalize L.getD y 0 = b at *
  generalize remN n tot L x = r at *
  generalize remN n tot L y = s at *
  go_enter Tryz.func139, Tryz.ntmps139
  go_wp2_with fail
  go_region
  go_wp2_with fail
  go_ret
  exact ⟨rfl, 1, rfl⟩
end Go.Proofs.YtiegbbngfojjoaaGreatDoor
