
/-
  The stream that a law begins with; what a law's walk says.
-/
import Derived.Test.YthogkcgklakibaaGreatDoorStrLib
namespace Go.Proofs.YthogkcgklakibaaGreatDoor
open Go.RowKit

def RowAt (w : World) (A : Option Addr) (n : Nat) : Prop := ∀ j, j < n → ∃ b off z, A = some ⟨b, off, none⟩ ∧ b < w.heap.size ∧ w.cell? ⟨b, off + j, none⟩ = some (.int .i64 z)
theorem stream_new (w : World) (A : Option Addr) (n c : Nat) (h : RowAt w A n) (hbig : n ≤ 1000000000000000) :
    StreamAt (w.alloc (.cells #[.slice A n c, .int .i64 0] 25)) w.heap.size A n c 0 := by
  refine ⟨⟨0, Nat.le_refl _, heap_alloc_new _ _⟩, fun j hj => ?_, hbig⟩
  obtain ⟨b, off, z, h1, h2, h3⟩ := h j hj
  exact ⟨b, off, z, h1, h2, by rw [World.cell?_alloc_lt _ _ _ h2]; exact h3⟩

def LawPost (w : World) (e : Ending) (w' : World) : Prop := e = .returned (.bool true) ∧ Below w.heap.size w w'

end Go.Proofs.YthogkcgklakibaaGreatDoor
