
/-
  The tables that deeds lean on: a string's greatest length, trailing zeros, powers of ten; Itoa.
-/
import Derived.Test.YthogkcgklakibaaGreatDoorStrLib
import Derived.Lib.LaidTab
import Derived.Sort.Grow
namespace Go.Proofs.YthogkcgklakibaaGreatDoor
open Go.RowKit Go.Sort

def deBruijn64 : List Int := [0, 1, 56, 2, 57, 49, 28, 3, 61, 58, 42, 50, 38, 29, 17, 4, 62, 47, 59, 36, 45, 43, 51, 22, 53, 39, 33, 30, 24, 18, 12, 5, 63, 55, 48, 27, 60, 41, 37, 16, 46, 35, 44, 21, 52, 32, 23, 11, 54, 26, 40, 15, 34, 20, 31, 10, 25, 14, 19, 9, 13, 8, 7, 6]
structure StandAt (w : World) : Prop where
  max : MaxAt w
  zeros : Lib.TabIs Tryz.prog w "math/bits.deBruijn64tab" .u8 deBruijn64
theorem tabIs_keep {n : String} {g : Nat} {k : IntKind} {zs : List Int} {w w' : World} (hg : Tryz.prog.globalNamed n = some g) (h : Lib.TabIs Tryz.prog w n k zs) (hb : Below w.heap.size w w') : Lib.TabIs Tryz.prog w' n k zs := by
  unfold Lib.TabIs World.var? at h ⊢
  rw [hg] at h ⊢
  simp only [Option.bind_some] at h ⊢
  have hlt : g < w.heap.size := by
    rcases Nat.lt_or_ge g w.heap.size with h' | h'
    · exact h'
    · rw [Array.getElem?_eq_none h'] at h; cases h
  rw [hb.block g hlt]
  exact h
theorem StandAt.below {w w' : World} (h : StandAt w) (hb : Below w.heap.size w w') : StandAt w' :=
  ⟨h.max.below hb, tabIs_keep (g := 5) (by kernel_rfl) h.zeros hb⟩
theorem grow_belowD (a : World) (q : Nat) (os : Array Obj) : Below a.heap.size a (grow (a.drewN q) os) := by
  refine ⟨rfl, rfl, rfl, by simp [grow, World.drewN], fun k hk => ?_⟩
  show ((a.drewN q).heap ++ os)[k]? = _
  rw [Array.getElem?_append_left (by simpa [World.drewN] using hk)]
  rfl
/-- The powers of ten that Itoa reads. -/
def PowAt (w : World) : Prop := Lib.TabIs Tryz.prog w "internal/strconv.uint64pow10" .u64 Lib.pow10Tab
theorem PowAt.below {w w' : World} (h : PowAt w) (hb : Below w.heap.size w w') : PowAt w' := tabIs_keep (g := 3) (by kernel_rfl) h hb
theorem itoa_any (u : Nat) (w : World) (hu : u ≤ 1000000000) (h : PowAt w) :
    Calls Tryz.prog 84 #[.int .i64 (u : Int)] w fun e w' => e = .returned (.string (bag (Lib.decDigits u))) ∧ Below w.heap.size w w' := by
  refine (Tryz.strconv_Itoa (u : Int) (by omega) (by omega) w h).mono ?_
  rintro e w' ⟨rfl, k, os, rfl⟩
  rw [Lib.itoa_nonneg]
  exact ⟨rfl, grow_belowD w k os⟩
end Go.Proofs.YthogkcgklakibaaGreatDoor
