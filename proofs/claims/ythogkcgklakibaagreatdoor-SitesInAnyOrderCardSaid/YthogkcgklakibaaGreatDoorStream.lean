
/-
  What the makers of values read of their numbers: Next, Flip, Pick, h06one.
-/
import Derived.Test.YthogkcgklakibaaGreatDoorBase
import Derived.Deep.QuietTactic
import Derived.BigQuiet
import Derived.Deep.Draws
import Derived.Laws.OwnMore
namespace Go.Proofs.YthogkcgklakibaaGreatDoor
open Go.RowKit

/-- Block g holds a stream: its numbers lie below g, and at most K of them have been handed out. -/
structure StreamAt (w : World) (g : Nat) (A : Option Addr) (n c K : Nat) : Prop where
  blk : ∃ k : Nat, k ≤ K ∧ w.heap[g]? = some (.cells #[.slice A n c, .int .i64 k] 25 (0, 0))
  row : ∀ j, j < n → ∃ b off z, A = some ⟨b, off, none⟩ ∧ b < g ∧ w.cell? ⟨b, off + j, none⟩ = some (.int .i64 z)
  big : n ≤ 1000000000000000

theorem StreamAt.lt {w : World} {g : Nat} {A : Option Addr} {n c K : Nat} (h : StreamAt w g A n c K) : g < w.heap.size := by
  obtain ⟨k, _, hb⟩ := h.blk
  exact (Array.getElem?_eq_some_iff.1 hb).1

theorem StreamAt.keep {w w' : World} {g : Nat} {A : Option Addr} {n c K : Nat} (h : StreamAt w g A n c K) (hb : ∀ i, i ≤ g → w'.heap[i]? = w.heap[i]?) : StreamAt w' g A n c K := by
  refine ⟨?_, fun j hj => ?_, h.big⟩
  · obtain ⟨k, hk, hh⟩ := h.blk
    exact ⟨k, hk, (hb g (Nat.le_refl _)).trans hh⟩
  · obtain ⟨b, off, z, h1, h2, h3⟩ := h.row j hj
    exact ⟨b, off, z, h1, h2, (World.cell?_of_block (hb b (by omega))).trans h3⟩

theorem StreamAt.below {w w' : World} {g : Nat} {A : Option Addr} {n c K : Nat} (h : StreamAt w g A n c K) (hb : Below w.heap.size w w') : StreamAt w' g A n c K :=
  h.keep fun i hi => hb.block i (by have := h.lt; omega)

theorem StreamAt.more {w : World} {g : Nat} {A : Option Addr} {n c K K' : Nat} (h : StreamAt w g A n c K) (hK : K ≤ K') : StreamAt w g A n c K' := by
  obtain ⟨k, hk, hh⟩ := h.blk
  exact ⟨⟨k, by omega, hh⟩, h.row, h.big⟩

theorem grown_drewN {a w : World} {row : Option Nat} (h : a.grownBy w row) (n : Nat) : a.grownBy (w.drewN n) row := ⟨h.os, h.tape, h.output, h.size, h.block⟩
theorem grown_setCell (w : World) (g o : Nat) (u : Value) : w.grownBy (w.setCell ⟨g, o, none⟩ u) (some g) :=
  ⟨rfl, rfl, rfl, by simp [World.setCell], fun i _ hne => Below.heap_setCell w ⟨g, o, none⟩ u i (fun e => hne (by rw [e]))⟩

theorem StreamAt.step {w : World} {g : Nat} {A : Option Addr} {n c K k : Nat} (h : StreamAt w g A n c K) (hk : k ≤ K)
    (hh : w.heap[g]? = some (.cells #[.slice A n c, .int .i64 k] 25 (0, 0))) (q : Nat) :
    StreamAt ((w.setCell ⟨g, 1, none⟩ (.int .i64 ((k : Int) + 1))).drewN q) g A n c (K + 1) := by
  refine ⟨⟨k + 1, by omega, ?_⟩, fun j hj => ?_, h.big⟩
  · show (w.setCell ⟨g, 1, none⟩ (.int .i64 ((k : Int) + 1))).heap[g]? = _
    simp [World.setCell, Array.getElem?_modify, hh]
  · obtain ⟨b, off, z, h1, h2, h3⟩ := h.row j hj
    refine ⟨b, off, z, h1, h2, ?_⟩
    show (w.setCell ⟨g, 1, none⟩ (.int .i64 ((k : Int) + 1))).cell? _ = _
    rw [World.cell?_of_block (Below.heap_setCell w ⟨g, 1, none⟩ _ b (by simp; omega))]
    exact h3

def NextPost (w : World) (g : Nat) (A : Option Addr) (n c K : Nat) (N : Int) (e : Ending) (w' : World) : Prop :=
  ∃ r : Int, e = .returned (.int .i64 r) ∧ 0 ≤ r ∧ (1 ≤ N → r < N) ∧ StreamAt w' g A n c (K + 1) ∧ w.grownBy w' (some g)

set_option maxHeartbeats 800000 in
theorem next_any (g : Nat) (A : Option Addr) (n c K : Nat) (N : Int) (w : World) (hs : StreamAt w g A n c K) (hK : K ≤ 1000000) (hN : N ≤ 4611686018427387904) :
    Calls Tryz.prog 9 #[.pointer (some ⟨g, 0, none⟩), .int .i64 N] w (NextPost w g A n c K N) := by
  obtain ⟨k, hk, hh⟩ := hs.blk
  have hc0 : w.cell? ⟨g, 0, none⟩ = some (.slice A n c) := by rw [cell_of_row w g 0 _ _ _ hh]; rfl
  have hc1 : w.cell? ⟨g, 1, none⟩ = some (.int .i64 k) := by rw [cell_of_row w g 1 _ _ _ hh]; rfl
  have hf1 : w.frozen? ⟨g, 1, none⟩ = false := by simp [World.frozen?, hh]
  have HS := Lib.hid (hs.step hk hh); 
  have HH := Lib.hid hh; clear hh
  have hbig := hs.big
  by_cases hn : n = 0
  · subst hn
    have hb := belowI_range (((k : Int) + 1) * 7919) N
    clear hs
    go_enter Tryz.func9, Tryz.ntmps9
    go_wp2_with fail
    refine (below_any _ _ _ (by omega)).mono ?_
    rintro e w' ⟨rfl, rfl⟩
    go_wp2
    go_ret
    exact ⟨_, rfl, hb.2, fun h => (hb.1 h).2, HS.out 0, grown_setCell _ _ _ _⟩
  · have hn0 : ((n : Int) == 0) = false := by simp; omega
    obtain ⟨b, off, z, rfl, hb, hz⟩ := hs.row (k % n) (Nat.mod_lt _ (by omega))
    have hm0 : 0 ≤ (k : Int) % (n : Int) := Int.emod_nonneg _ (by omega)
    have hm1 : (k : Int) % (n : Int) < n := Int.emod_lt_of_pos _ (by omega)
    go_enter Tryz.func9, Tryz.ntmps9
    go_wp2
    go_quiet (fail)
    go_wp2
    go_quiet (fail)
    go_wp2_with fail
    refine (below_any _ _ _ (by omega)).mono ?_
    rintro e w' ⟨rfl, rfl⟩
    go_wp2_with fail
    refine (below_any _ _ _ (by omega)).mono ?_
    rintro e w' ⟨rfl, rfl⟩
    go_wp2
    go_ret
    refine ⟨_, rfl, (belowI_range _ N).2, fun h => ((belowI_range _ N).1 h).2, HS.out _, grown_drewN (grown_setCell _ _ _ _) _⟩

def FlipPost (w : World) (g : Nat) (A : Option Addr) (n c K : Nat) (e : Ending) (w' : World) : Prop :=
  ∃ r : Bool, e = .returned (.bool r) ∧ StreamAt w' g A n c (K + 1) ∧ w.grownBy w' (some g)

set_option maxHeartbeats 400000 in
theorem flip_any (g : Nat) (A : Option Addr) (n c K : Nat) (N : Int) (w : World) (hs : StreamAt w g A n c K) (hK : K ≤ 1000000) (hN : N ≤ 4611686018427387904) :
    Calls Tryz.prog 65 #[.pointer (some ⟨g, 0, none⟩), .int .i64 N] w (FlipPost w g A n c K) := by
  go_enter Tryz.func65, Tryz.ntmps65
  go_wp2_with fail
  refine (next_any g A n c K N w hs hK hN).mono ?_
  rintro e w1 ⟨r, rfl, h0, h1, hs1, hg1⟩
  go_wp2
  go_ret
  exact ⟨_, rfl, hs1, hg1⟩

def PickPost (w : World) (g : Nat) (A : Option Addr) (n c K : Nat) (zs : List Int) (e : Ending) (w' : World) : Prop :=
  ∃ r : Int, e = .returned (.int .i64 r) ∧ r ∈ zs ∧ StreamAt w' g A n c (K + 1) ∧ w.grownBy w' (some g)

set_option maxHeartbeats 400000 in
theorem pick_any (g : Nat) (A : Option Addr) (n c K : Nat) (zs : List Int) (h m cap : Nat) (w : World) (hs : StreamAt w g A n c K) (hK : K ≤ 1000000)
    (hm : zs.length = m) (hm1 : 1 ≤ m) (hm2 : m ≤ 1000) (hgh : g ≠ h) (hc : ∀ j, j < m → w.cell? ⟨h, j, none⟩ = some (.int .i64 (zs.getD j 0))) :
    Calls Tryz.prog 63 #[.pointer (some ⟨g, 0, none⟩), .slice (some ⟨h, 0, none⟩) m cap] w (PickPost w g A n c K zs) := by
  have HM := Lib.hid hm; clear hm
  have HC := Lib.hid hc; clear hc
  go_enter Tryz.func63, Tryz.ntmps63
  go_wp2_with fail
  refine (next_any g A n c K m w hs hK (by omega)).mono ?_
  rintro e w1 ⟨r, rfl, h0, h1, hs1, hg1⟩
  have h2 := h1 (by omega)
  clear h1
  obtain ⟨i, rfl⟩ := Int.eq_ofNat_of_zero_le h0
  have hcell : w1.cell? ⟨h, i, none⟩ = some (.int .i64 (zs.getD i 0)) := hg1.cell (HC.out i (by omega)) (by simp; omega)
  go_wp2
  go_ret
  refine ⟨_, rfl, ?_, hs1, hg1⟩
  have := HM.out
  rw [List.getElem?_eq_getElem (by omega)]
  exact List.getElem_mem _

def OnePost (w : World) (g : Nat) (A : Option Addr) (n c K : Nat) (ss : List ByteArray) (e : Ending) (w' : World) : Prop :=
  ∃ r : ByteArray, e = .returned (.string r) ∧ r ∈ ss ∧ StreamAt w' g A n c (K + 1) ∧ w.grownBy w' (some g)

set_option maxHeartbeats 400000 in
theorem one_any (g : Nat) (A : Option Addr) (n c K : Nat) (ss : List ByteArray) (h m cap : Nat) (w : World) (hs : StreamAt w g A n c K) (hK : K ≤ 1000000)
    (hm : ss.length = m) (hm1 : 1 ≤ m) (hm2 : m ≤ 1000) (hgh : g ≠ h) (hc : ∀ j, j < m → w.cell? ⟨h, j, none⟩ = some (.string (ss.getD j ByteArray.empty))) :
    Calls Tryz.prog 64 #[.pointer (some ⟨g, 0, none⟩), .slice (some ⟨h, 0, none⟩) m cap] w (OnePost w g A n c K ss) := by
  have HM := Lib.hid hm; clear hm
  have HC := Lib.hid hc; clear hc
  go_enter Tryz.func64, Tryz.ntmps64
  go_wp2_with fail
  refine (next_any g A n c K m w hs hK (by omega)).mono ?_
  rintro e w1 ⟨r, rfl, h0, h1, hs1, hg1⟩
  have h2 := h1 (by omega)
  clear h1
  obtain ⟨i, rfl⟩ := Int.eq_ofNat_of_zero_le h0
  have hcell : w1.cell? ⟨h, i, none⟩ = some (.string (ss.getD i ByteArray.empty)) := hg1.cell (HC.out i (by omega)) (by simp; omega)
  go_wp2
  go_ret
  refine ⟨_, rfl, ?_, hs1, hg1⟩
  have := HM.out
  rw [List.getElem?_eq_getElem (by omega)]
  exact List.getElem_mem _

end Go.Proofs.YthogkcgklakibaaGreatDoor
