
/-
  From a law's walk to its card: what all cards of the deeds' seat share.
-/
import Derived.Test.YthogkcgklakibaaGreatDoorCards
import Derived.Test.YthogkcgklakibaaGreatDoorTie
import Derived.Test.YthogkcgklakibaaGreatDoorStandD
import Derived.Test.YthogkcgklakibaaGreatDoorDdSites
import Derived.LaidMore
import Derived.Stop.LaidErr
import Derived.Deep.DeepLaidRun
import Derived.Test.YthogkcgklakibaaGreatDoorStreamNew
import Derived.ProofKit
import Derived.OpenShut
import Derived.Deep.DeepHandedRow
import Derived.Lib.LaidTab
import Derived.Lib.LaidU8T
import Derived.PinnedBridge

namespace Go.Proofs.YthogkcgklakibaaGreatDoor
open Go.ChangeShapes Go.WideShapes Go.ChangeAt Go.RowKit Go.Shelf

theorem own : ownKnob Tryz.prog.godebug = none := by kernel_rfl
theorem laidOut : laidOutB Tryz.prog = true := by kernel_rfl
theorem cellsInt : Tryz.prog.cellsOf 3 = 1 := by kernel_rfl
theorem bytesInt : Tryz.prog.bytesOf 3 = 8 := by kernel_rfl

/-- What the row lists. -/
def laidFive : List (String × DataW Unit) := [("math/bits.deBruijn32tab", Rows.laid_math_bits_deBruijn32tab), ("math/bits.deBruijn64tab", Rows.laid_math_bits_deBruijn64tab), ("internal/strconv.uint64pow10", Rows.laid_internal_strconv_uint64pow10), ("unicode/utf8.acceptRanges", Rows.laid_unicode_utf8_acceptRanges), ("unicode/utf8.first", Rows.laid_unicode_utf8_first)]

theorem maxAt_of {W : World} (h : W.ShapedOpen Tryz.prog) : MaxAt W :=
  Go.Proofs.cell_of_shapedOpen_int (zero := #[.int .i64 0]) (t := 3) h (of_decide_eq_true (by kernel_rfl)) (by kernel_rfl) rfl (by kernel_rfl) (by kernel_rfl) Tryz.underlying3
theorem stand_of {W : World} (hL : laidMetH Tryz.prog laidFive W) (h : W.ShapedOpen Tryz.prog) : StandAt W := by
  rw [MakeChecks.laidMetH_plain _ _ _ (by kernel_rfl)] at hL
  have h1 := hL.tail
  refine ⟨maxAt_of h, ?_⟩
  have e : (Rows.laid_math_bits_deBruijn64tab : DataW Unit) = Lib.tabData .u8 deBruijn64 := by kernel_rfl
  rw [e] at h1
  exact Lib.tabIs_of_head (g := 5) (t := 257) (e := 5) (by kernel_rfl) (by kernel_rfl) Tryz.underlying257 Tryz.underlying5 (by kernel_rfl) (by kernel_rfl) h1
theorem pow_of {W : World} (hL : laidMetH Tryz.prog laidFive W) : PowAt W := by
  rw [MakeChecks.laidMetH_plain _ _ _ (by kernel_rfl)] at hL
  have h2 := hL.tail.tail
  have e : (Rows.laid_internal_strconv_uint64pow10 : DataW Unit) = Lib.tabData .u64 Lib.pow10Tab := by kernel_rfl
  rw [e] at h2
  exact Lib.tabIs_of_head (g := 3) (t := 247) (e := 165) (by kernel_rfl) (by kernel_rfl) Tryz.underlying247 Tryz.underlying165 (by kernel_rfl) (by kernel_rfl) h2
theorem u8extra : U8Extra Tryz.prog Tryz.laysValid_ren where
  n3 := by kernel_rfl
  n4 := by kernel_rfl
  y3 := by kernel_rfl
  y4 := by kernel_rfl
  c5 := by kernel_rfl
  c119 := by kernel_rfl
  c138 := by kernel_rfl
theorem tabs_of {W : World} (h : laidMetH Tryz.prog laidFive W) : Tabs W := by
  rw [MakeChecks.laidMetH_plain _ _ _ (by kernel_rfl)] at h
  refine utf8Tabs_of_readsT (U8Types.of196 Tryz.laysValid) u8extra (w := W) ?_ ?_
  · rw [← Pinned.utf8First_eq]
    exact Lib.laidMet.reads h (by simp [laidFive, Rows.laid_unicode_utf8_first])
  · have e : (Rows.laid_unicode_utf8_acceptRanges : DataW Unit) = Lib.acceptData := by kernel_rfl
    rw [← e]
    exact Lib.laidMet.reads h (by simp [laidFive])
theorem all_of {W : World} (hL : laidMetH Tryz.prog laidFive W) (h : W.ShapedOpen Tryz.prog) : TabsAll W := ⟨tabs_of hL, maxAt_of h, pow_of hL, stand_of hL h⟩
theorem row_of {H : Type} {enc : TypeId × Value → H} {W : World} {a0 : Option Addr} {len cap fuel : Nat} {d0 : DataW H} {p : List MemPlace} (hf : DataW.trod enc Tryz.prog W 0 (fun _ => true) true fuel 22 (Value.slice a0 len cap).cells.toList = some (d0, p))
    (hsz : (DataW.weightsEach Tryz.prog [22] [d0]).all (· ≤ reachBytes) = true) : RowAt W a0 len ∧ len ≤ 1000000000000000 := by
  rcases open_ints Tryz.underlying22 Tryz.underlying3 cellsInt hf with ⟨hcs, hx⟩ | ⟨a, len', cap', zs, hcs, _, hl, hmx, hz, hx, hcell, hwz⟩
  · simp [Value.cells] at hcs
    obtain ⟨rfl, rfl, rfl⟩ := hcs
    exact ⟨fun j hj => by omega, by omega⟩
  · simp [Value.cells] at hcs
    obtain ⟨rfl, rfl, rfl⟩ := hcs
    simp only [Prod.mk.injEq] at hx
    obtain ⟨rfl, rfl⟩ := hx
    simp only [if_true] at hz
    have hlz : len ≤ zs.length := by omega
    constructor
    · intro j hj
      obtain ⟨b, off, rfl, hc⟩ := ints_at hcell (by omega)
      exact ⟨b, off, zs.getD j 0, rfl, World.block_lt_of_cell? W ⟨b, off + j, none⟩ (hc j (by omega)), hc j (by omega)⟩
    · have := sized_slice hsz (j := 0) (t := 22) (e := 3) rfl rfl Tryz.underlying22
      rw [bytesInt] at this
      simp only [lits, List.length_map, List.length_take, List.length_drop, reachBytes] at this
      omega

/-- One block's cells, laid anew. -/
def relaid (vs : Array Value) : Obj → Obj
  | .cells _ t fr => .cells vs t fr
  | o => o
/-- A world for the witness: the heap that the program's own laying leaves, the table of utf8 besides. -/
noncomputable def laidWorld (os : Os) : World :=
  { World.doorLaid Tryz.prog 96 os with heap := (World.doorLaid Tryz.prog 96 os).heap.modify 1 (relaid (Lib.firstTab.map (Value.int .u8)).toArray) }
theorem laid_met (os : Os) : laidMet Tryz.prog laidFive ((laidWorld os).forCall (fun _ _ => 0) ⟨#[], #[.slice none 0 0], []⟩).memory :=
  laidMet_of_run3 8 (by kernel_rfl) (by kernel_rfl) (by kernel_rfl)

end Go.Proofs.YthogkcgklakibaaGreatDoor
