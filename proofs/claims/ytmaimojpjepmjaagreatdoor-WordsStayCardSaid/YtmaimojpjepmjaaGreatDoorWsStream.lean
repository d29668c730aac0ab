
/-
  What the makers of values read of their numbers, as functions of the numbers: Next, Flip, Pick, h06one, Range.
-/
import Derived.Test.YtmaimojpjepmjaaGreatDoorElems
namespace Go.Proofs.YtmaimojpjepmjaaGreatDoor
open Go.RowKit

/-- The number that is handed out behind k others, from 0 to N - 1. -/
def nextF (zs : List Int) (k : Nat) (N : Int) : Int :=
  if zs.length = 0 then belowI (((k : Int) + 1) * 7919) N
  else belowI (wrap64 (belowI (zs.getD (k % zs.length) 0) 1073741824 + wrap64 (wrap64 ((k : Int) / (zs.length : Int)) * (7919 + (k : Int) % (zs.length : Int))))) N

theorem nextF_range (zs : List Int) (k : Nat) (N : Int) : 0 ≤ nextF zs k N ∧ (1 ≤ N → nextF zs k N < N) := by
  unfold nextF
  split
  · exact ⟨(belowI_range _ N).2, fun h => ((belowI_range _ N).1 h).2⟩
  · exact ⟨(belowI_range _ N).2, fun h => ((belowI_range _ N).1 h).2⟩
def nextN (zs : List Int) (k : Nat) (N : Nat) : Nat := (nextF zs k N).toNat
theorem nextN_lt (zs : List Int) (k N : Nat) (h : 1 ≤ N) : nextN zs k N < N := by
  have := (nextF_range zs k N).2 (by omega)
  have := (nextF_range zs k N).1
  unfold nextN; omega
theorem nextN_eq (zs : List Int) (k N : Nat) : nextF zs k N = (nextN zs k N : Int) := by
  have := (nextF_range zs k N).1
  unfold nextN; omega

/-- Block g holds a stream: its numbers are zs and lie below g, k of them have been handed out. -/
structure StreamIs (w : World) (g : Nat) (A : Option Addr) (n c k : Nat) (zs : List Int) : Prop where
  blk : w.heap[g]? = some (.cells #[.slice A n c, .int .i64 k] 25 (0, 0))
  len : zs.length = n
  row : ∀ j, j < n → ∃ b off, A = some ⟨b, off, none⟩ ∧ b < g ∧ w.cell? ⟨b, off + j, none⟩ = some (.int .i64 (zs.getD j 0))
  big : n ≤ 1000000000000000

theorem StreamIs.lt {w : World} {g : Nat} {A : Option Addr} {n c k : Nat} {zs : List Int} (h : StreamIs w g A n c k zs) : g < w.heap.size := (Array.getElem?_eq_some_iff.1 h.blk).1
theorem StreamIs.keep {w w' : World} {g : Nat} {A : Option Addr} {n c k : Nat} {zs : List Int} (h : StreamIs w g A n c k zs) (hb : ∀ i, i ≤ g → w'.heap[i]? = w.heap[i]?) : StreamIs w' g A n c k zs := by
  refine ⟨(hb g (Nat.le_refl _)).trans h.blk, h.len, fun j hj => ?_, h.big⟩
  obtain ⟨b, off, h1, h2, h3⟩ := h.row j hj
  exact ⟨b, off, h1, h2, (World.cell?_of_block (hb b (by omega))).trans h3⟩
theorem StreamIs.below {w w' : World} {g : Nat} {A : Option Addr} {n c k : Nat} {zs : List Int} (h : StreamIs w g A n c k zs) (hb : Below w.heap.size w w') : StreamIs w' g A n c k zs :=
  h.keep fun i hi => hb.block i (by have := h.lt; omega)
theorem StreamIs.alloc {w : World} {g : Nat} {A : Option Addr} {n c k : Nat} {zs : List Int} (h : StreamIs w g A n c k zs) (o : Obj) : StreamIs (w.alloc o) g A n c k zs :=
  h.below ((Below.refl _ _).alloc (Nat.le_refl _) o)
theorem StreamIs.drew_ {w : World} {g : Nat} {A : Option Addr} {n c k : Nat} {zs : List Int} (h : StreamIs w g A n c k zs) (q : Nat) : StreamIs (w.drewN q) g A n c k zs := h.keep fun _ _ => rfl
theorem StreamIs.row_ {b d : World} {g : Nat} {A : Option Addr} {n c k : Nat} {zs : List Int} {row : Option Nat} (h : StreamIs b g A n c k zs) (hk : b.grownBy d row) (hr : ∀ i, row = some i → g < i) : StreamIs d g A n c k zs :=
  h.keep fun i hi => hk.block i (by have := h.lt; omega) (fun e => by have := hr i e.symm; omega)
theorem StreamIs.step {w : World} {g : Nat} {A : Option Addr} {n c k : Nat} {zs : List Int} (h : StreamIs w g A n c k zs) (q : Nat) :
    StreamIs ((w.setCell ⟨g, 1, none⟩ (.int .i64 ((k : Int) + 1))).drewN q) g A n c (k + 1) zs := by
  refine ⟨?_, h.len, fun j hj => ?_, h.big⟩
  · show (w.setCell ⟨g, 1, none⟩ (.int .i64 ((k : Int) + 1))).heap[g]? = _
    simp [World.setCell, Array.getElem?_modify, h.blk]
  · obtain ⟨b, off, h1, h2, h3⟩ := h.row j hj
    refine ⟨b, off, h1, h2, ?_⟩
    show (w.setCell ⟨g, 1, none⟩ (.int .i64 ((k : Int) + 1))).cell? _ = _
    rw [World.cell?_of_block (Below.heap_setCell w ⟨g, 1, none⟩ _ b (by simp; omega))]
    exact h3

def NextIs (w : World) (g : Nat) (A : Option Addr) (n c k : Nat) (zs : List Int) (N : Int) (e : Ending) (w' : World) : Prop :=
  e = .returned (.int .i64 (nextF zs k N)) ∧ StreamIs w' g A n c (k + 1) zs ∧ w.grownBy w' (some g)

set_option maxHeartbeats 800000 in
theorem next_is (g : Nat) (A : Option Addr) (n c k : Nat) (zs : List Int) (N : Int) (w : World) (hs : StreamIs w g A n c k zs) (hK : k ≤ 1000000) (hN : N ≤ 4611686018427387904) :
    Calls Tryz.prog 37 #[.pointer (some ⟨g, 0, none⟩), .int .i64 N] w (NextIs w g A n c k zs N) := by
  have hh := hs.blk
  have hc0 : w.cell? ⟨g, 0, none⟩ = some (.slice A n c) := by rw [cell_of_row w g 0 _ _ _ hh]; rfl
  have hc1 : w.cell? ⟨g, 1, none⟩ = some (.int .i64 k) := by rw [cell_of_row w g 1 _ _ _ hh]; rfl
  have hf1 : w.frozen? ⟨g, 1, none⟩ = false := by simp [World.frozen?, hh]
  have HS := Lib.hid hs.step; 
  clear hh
  have hbig := hs.big
  have HL := Lib.hid hs.len
  by_cases hn : n = 0
  · subst hn
    have HR : Hid (nextF zs k N = belowI (((k : Int) + 1) * 7919) N) := by
      show _ = _
      unfold nextF; rw [if_pos HL.out]
    clear hs
    go_enter Tryz.func37, Tryz.ntmps37
    go_wp2_with fail
    refine (below_any _ _ _ (by omega)).mono ?_
    rintro e w' ⟨rfl, rfl⟩
    go_wp2
    go_ret
    exact ⟨ret_int HR.out.symm, HS.out 0, grown_setCell _ _ _ _⟩
  · have hn0 : ((n : Int) == 0) = false := by simp; omega
    obtain ⟨b, off, rfl, hb, hz⟩ := hs.row (k % n) (Nat.mod_lt _ (by omega))
    have HR : Hid (nextF zs k N = belowI (wrap64 (belowI (zs.getD (k % n) 0) 1073741824 + wrap64 (wrap64 ((k : Int) / (n : Int)) * (7919 + (k : Int) % (n : Int))))) N) := by
      show _ = _
      unfold nextF; rw [HL.out, if_neg hn]
    generalize zs.getD (k % n) 0 = z at *
    have hm0 : 0 ≤ (k : Int) % (n : Int) := Int.emod_nonneg _ (by omega)
    have hm1 : (k : Int) % (n : Int) < n := Int.emod_lt_of_pos _ (by omega)
    clear hs
    go_enter Tryz.func37, Tryz.ntmps37
    go_wp2
    go_quiet (fail)
    go_wp2
    go_quiet (fail)
    go_wp2_with fail
    refine (below_any _ _ _ (by omega)).mono ?_
    rintro e w' ⟨rfl, rfl⟩
    go_wp2_with fail
    refine (below_any _ _ _ (by omega)).mono ?_
    rintro e w' ⟨rfl, rfl⟩
    go_wp2
    go_ret
    exact ⟨ret_int HR.out.symm, HS.out _, grown_drewN (grown_setCell _ _ _ _) _⟩

theorem next_ns (g : Nat) (A : Option Addr) (n c k : Nat) (zs : List Int) (N : Nat) (w : World) (hs : StreamIs w g A n c k zs) (hK : k ≤ 1000000) (hN : N ≤ 4611686018427387904) :
    Calls Tryz.prog 37 #[.pointer (some ⟨g, 0, none⟩), .int .i64 (N : Int)] w fun e w' => e = .returned (.int .i64 ((nextN zs k N : Nat) : Int)) ∧ StreamIs w' g A n c (k + 1) zs ∧ w.grownBy w' (some g) :=
  (next_is g A n c k zs N w hs hK (by omega)).mono fun e w' h => ⟨h.1.trans (ret_int (nextN_eq zs k N)), h.2⟩

def FlipIs (w : World) (g : Nat) (A : Option Addr) (n c k : Nat) (zs : List Int) (N : Int) (e : Ending) (w' : World) : Prop :=
  e = .returned (.bool (nextF zs k N == 0)) ∧ StreamIs w' g A n c (k + 1) zs ∧ w.grownBy w' (some g)
set_option maxHeartbeats 400000 in
theorem flip_is (g : Nat) (A : Option Addr) (n c k : Nat) (zs : List Int) (N : Int) (w : World) (hs : StreamIs w g A n c k zs) (hK : k ≤ 1000000) (hN : N ≤ 4611686018427387904) :
    Calls Tryz.prog 26 #[.pointer (some ⟨g, 0, none⟩), .int .i64 N] w (FlipIs w g A n c k zs N) := by
  have HX := Lib.hid (next_is g A n c k zs N w hs hK hN)
  have HP : Hid (∀ e w', (e = Ending.returned (.bool (nextF zs k N == 0)) ∧ StreamIs w' g A n c (k + 1) zs ∧ w.grownBy w' (some g)) → FlipIs w g A n c k zs N e w') := fun e w' h => h
  clear hs
  go_enter Tryz.func26, Tryz.ntmps26
  go_wp2_with fail
  refine HX.out.mono ?_
  rintro e w1 ⟨rfl, hs1, hg1⟩
  generalize nextF zs k N = r at *
  go_wp2
  go_ret
  exact HP.out _ _ ⟨rfl, hs1, hg1⟩

def PickIs (w : World) (g : Nat) (A : Option Addr) (n c k : Nat) (zs : List Int) (l : List Int) (e : Ending) (w' : World) : Prop :=
  e = .returned (.int .i64 (l.getD (nextN zs k l.length) 0)) ∧ StreamIs w' g A n c (k + 1) zs ∧ w.grownBy w' (some g)
set_option maxHeartbeats 400000 in
theorem pick_is (g : Nat) (A : Option Addr) (n c k : Nat) (zs : List Int) (l : List Int) (h m cap : Nat) (w : World) (hs : StreamIs w g A n c k zs) (hK : k ≤ 1000000)
    (hm : l.length = m) (hm1 : 1 ≤ m) (hm2 : m ≤ 1000) (hgh : g ≠ h) (hc : ∀ j, j < m → w.cell? ⟨h, j, none⟩ = some (.int .i64 (l.getD j 0))) :
    Calls Tryz.prog 27 #[.pointer (some ⟨g, 0, none⟩), .slice (some ⟨h, 0, none⟩) m cap] w (PickIs w g A n c k zs l) := by
  have HX := Lib.hid (next_is g A n c k zs m w hs hK (by omega))
  have HP : Hid (∀ e w', (e = Ending.returned (.int .i64 (l.getD (nextN zs k m) 0)) ∧ StreamIs w' g A n c (k + 1) zs ∧ w.grownBy w' (some g)) → PickIs w g A n c k zs l e w') := fun e w' h => by unfold PickIs; rw [hm]; exact h
  clear hm
  have HC := Lib.hid hc; clear hc
  clear hs
  go_enter Tryz.func27, Tryz.ntmps27
  go_wp2_with fail
  refine HX.out.mono ?_
  rintro e w1 ⟨rfl, hs1, hg1⟩
  have hlt := nextN_lt zs k m hm1
  rw [nextN_eq]
  generalize nextN zs k m = i at *
  have hcell : w1.cell? ⟨h, i, none⟩ = some (.int .i64 (l.getD i 0)) := hg1.cell (HC.out i (by omega)) (by simp; omega)
  generalize l.getD i 0 = z at *
  go_wp2
  go_ret
  exact HP.out _ _ ⟨rfl, hs1, hg1⟩

def OneIs (w : World) (g : Nat) (A : Option Addr) (n c k : Nat) (zs : List Int) (ss : List ByteArray) (e : Ending) (w' : World) : Prop :=
  e = .returned (.string (ss.getD (nextN zs k ss.length) ByteArray.empty)) ∧ StreamIs w' g A n c (k + 1) zs ∧ w.grownBy w' (some g)
set_option maxHeartbeats 400000 in
theorem one_is (g : Nat) (A : Option Addr) (n c k : Nat) (zs : List Int) (ss : List ByteArray) (h m cap : Nat) (w : World) (hs : StreamIs w g A n c k zs) (hK : k ≤ 1000000)
    (hm : ss.length = m) (hm1 : 1 ≤ m) (hm2 : m ≤ 1000) (hgh : g ≠ h) (hc : ∀ j, j < m → w.cell? ⟨h, j, none⟩ = some (.string (ss.getD j ByteArray.empty))) :
    Calls Tryz.prog 22 #[.pointer (some ⟨g, 0, none⟩), .slice (some ⟨h, 0, none⟩) m cap] w (OneIs w g A n c k zs ss) := by
  have HX := Lib.hid (next_is g A n c k zs m w hs hK (by omega))
  have HP : Hid (∀ e w', (e = Ending.returned (.string (ss.getD (nextN zs k m) ByteArray.empty)) ∧ StreamIs w' g A n c (k + 1) zs ∧ w.grownBy w' (some g)) → OneIs w g A n c k zs ss e w') := fun e w' h => by unfold OneIs; rw [hm]; exact h
  clear hm
  have HC := Lib.hid hc; clear hc
  clear hs
  go_enter Tryz.func22, Tryz.ntmps22
  go_wp2_with fail
  refine HX.out.mono ?_
  rintro e w1 ⟨rfl, hs1, hg1⟩
  have hlt := nextN_lt zs k m hm1
  rw [nextN_eq]
  generalize nextN zs k m = i at *
  have hcell : w1.cell? ⟨h, i, none⟩ = some (.string (ss.getD i ByteArray.empty)) := hg1.cell (HC.out i (by omega)) (by simp; omega)
  generalize ss.getD i ByteArray.empty = z at *
  go_wp2
  go_ret
  exact HP.out _ _ ⟨rfl, hs1, hg1⟩

def RangeIs (w : World) (g : Nat) (A : Option Addr) (n c k : Nat) (zs : List Int) (lo hi : Int) (e : Ending) (w' : World) : Prop :=
  e = .returned (.int .i64 (lo + nextF zs k (hi - lo + 1))) ∧ StreamIs w' g A n c (k + 1) zs ∧ w.grownBy w' (some g)
set_option maxHeartbeats 800000 in
theorem range_is (g : Nat) (A : Option Addr) (n c k : Nat) (zs : List Int) (lo hi : Int) (w : World) (hs : StreamIs w g A n c k zs) (hK : k ≤ 1000000) (h0 : -1000000 ≤ lo) (h1 : lo ≤ hi) (h2 : hi ≤ 1000000) :
    Calls Tryz.prog 25 #[.pointer (some ⟨g, 0, none⟩), .int .i64 lo, .int .i64 hi] w (RangeIs w g A n c k zs lo hi) := by
  have hni : ¬ hi < lo := by omega
  have e1 : IntKind.i64.wrap (hi - lo) = hi - lo := IntWalk.i64_in _ (by omega)
  have e2 : IntKind.i64.wrap (hi - lo + 1) = hi - lo + 1 := IntWalk.i64_in _ (by omega)
  have HX := Lib.hid (next_is g A n c k zs (hi - lo + 1) w hs hK (by omega))
  have hr := nextF_range zs k (hi - lo + 1)
  have hr2 := hr.2 (by omega)
  have hr1 := hr.1
  clear hs hr
  go_enter Tryz.func25, Tryz.ntmps25
  go_wp2_with fail
  refine HX.out.mono ?_
  rintro e w2 ⟨rfl, hs2, hg2⟩
  have e3 : IntKind.i64.wrap (lo + nextF zs k (hi - lo + 1)) = lo + nextF zs k (hi - lo + 1) := IntWalk.i64_in _ (by omega)
  go_wp2_with fail
  go_ret
  exact ⟨rfl, hs2, hg2⟩
end Go.Proofs.YtmaimojpjepmjaaGreatDoor
