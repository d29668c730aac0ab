
/-
  Deeds: how they lie.
-/
import Derived.Test.YthogkcgklakibaaGreatDoorDdPlain
import Derived.Lib.Hide
namespace Go.Proofs.YthogkcgklakibaaGreatDoor
open Go.RowKit

def Deed.cells (x : Deed) : List Value := [.string x.site, .int .i64 x.no, .int .i64 x.at_, .int .i64 x.kind, .string x.id, .string x.fld, .string x.val, .int .i64 x.from_, .int .i64 x.to_, .string x.osite, .int .i64 x.ono, .string x.sum]
def Deed.v (x : Deed) : Value := .agg #[.string x.site, .int .i64 x.no, .int .i64 x.at_, .int .i64 x.kind, .string x.id, .string x.fld, .string x.val, .int .i64 x.from_, .int .i64 x.to_, .string x.osite, .int .i64 x.ono, .string x.sum]
def DeedE : Elem Deed := ⟨40, 26, 12, 144, .agg #[.string ⟨#[]⟩, .int .i64 0, .int .i64 0, .int .i64 0, .string ⟨#[]⟩, .string ⟨#[]⟩, .string ⟨#[]⟩, .int .i64 0, .int .i64 0, .string ⟨#[]⟩, .int .i64 0, .string ⟨#[]⟩], fun x => x.cells⟩
theorem deedE_ok : DeedE.Ok := ⟨fun _ => rfl, fun x u hu => by
  have hm : u ∈ [Value.string x.site, .int .i64 x.no, .int .i64 x.at_, .int .i64 x.kind, .string x.id, .string x.fld, .string x.val, .int .i64 x.from_, .int .i64 x.to_, .string x.osite, .int .i64 x.ono, .string x.sum] := hu
  simp only [List.mem_cons, List.not_mem_nil, or_false] at hm
  rcases hm with h | h | h | h | h | h | h | h | h | h | h | h <;> (subst h; rfl), by decide, by decide, by kernel_rfl, by kernel_rfl, Tryz.underlying26⟩
abbrev DeedsAt (w : World) (A : Option Addr) (n c : Nat) (l : List Deed) : Prop := ElemsAt DeedE w A n c l
theorem ElemsAt.deed {w : World} {A : Option Addr} {n c : Nat} {l : List Deed} (h : DeedsAt w A n c l) (h0 : 0 < n) : ∃ g off, A = some ⟨g, off, none⟩ ∧ g < w.heap.size ∧ ∀ k x, l[k]? = some x →
    w.cell? ⟨g, off + k * 12, none⟩ = some (.string x.site) ∧ w.cell? ⟨g, off + k * 12 + 1, none⟩ = some (.int .i64 x.no) ∧ w.cell? ⟨g, off + k * 12 + 2, none⟩ = some (.int .i64 x.at_) ∧ w.cell? ⟨g, off + k * 12 + 3, none⟩ = some (.int .i64 x.kind) ∧ w.cell? ⟨g, off + k * 12 + 4, none⟩ = some (.string x.id) ∧ w.cell? ⟨g, off + k * 12 + 5, none⟩ = some (.string x.fld) ∧ w.cell? ⟨g, off + k * 12 + 6, none⟩ = some (.string x.val) ∧ w.cell? ⟨g, off + k * 12 + 7, none⟩ = some (.int .i64 x.from_) ∧ w.cell? ⟨g, off + k * 12 + 8, none⟩ = some (.int .i64 x.to_) ∧ w.cell? ⟨g, off + k * 12 + 9, none⟩ = some (.string x.osite) ∧ w.cell? ⟨g, off + k * 12 + 10, none⟩ = some (.int .i64 x.ono) ∧ w.cell? ⟨g, off + k * 12 + 11, none⟩ = some (.string x.sum) := by
  obtain ⟨g, off, hA, hg, hc⟩ := h.2.2.2 h0
  exact ⟨g, off, hA, hg, fun k x hx => ⟨hc k x 0 _ hx rfl, hc k x 1 _ hx rfl, hc k x 2 _ hx rfl, hc k x 3 _ hx rfl, hc k x 4 _ hx rfl, hc k x 5 _ hx rfl, hc k x 6 _ hx rfl, hc k x 7 _ hx rfl, hc k x 8 _ hx rfl, hc k x 9 _ hx rfl, hc k x 10 _ hx rfl, hc k x 11 _ hx rfl⟩⟩
/-- Twelve cells of a block of their own. -/
def DeedAt (w : World) (P : Nat) (x : Deed) : Prop := w.heap[P]? = some (.cells x.cells.toArray 40 (0, 0))
theorem deed_new (w : World) (x : Deed) : DeedAt (w.alloc (.cells #[.string x.site, .int .i64 x.no, .int .i64 x.at_, .int .i64 x.kind, .string x.id, .string x.fld, .string x.val, .int .i64 x.from_, .int .i64 x.to_, .string x.osite, .int .i64 x.ono, .string x.sum] 40)) w.heap.size x := heap_alloc_new w _
theorem DeedAt.lt {w : World} {P : Nat} {x : Deed} (h : DeedAt w P x) : P < w.heap.size := (Array.getElem?_eq_some_iff.1 h).1
theorem DeedAt.keep {w w' : World} {P : Nat} {x : Deed} (h : DeedAt w P x) (hb : Below w.heap.size w w') : DeedAt w' P x := (hb.block P h.lt).trans h
theorem DeedAt.c {w : World} {P : Nat} {x : Deed} (h : DeedAt w P x) : w.cell? ⟨P, 0, none⟩ = some (.string x.site) ∧ w.cell? ⟨P, 1, none⟩ = some (.int .i64 x.no) ∧ w.cell? ⟨P, 2, none⟩ = some (.int .i64 x.at_) ∧ w.cell? ⟨P, 3, none⟩ = some (.int .i64 x.kind) ∧ w.cell? ⟨P, 4, none⟩ = some (.string x.id) ∧ w.cell? ⟨P, 5, none⟩ = some (.string x.fld) ∧ w.cell? ⟨P, 6, none⟩ = some (.string x.val) ∧ w.cell? ⟨P, 7, none⟩ = some (.int .i64 x.from_) ∧ w.cell? ⟨P, 8, none⟩ = some (.int .i64 x.to_) ∧ w.cell? ⟨P, 9, none⟩ = some (.string x.osite) ∧ w.cell? ⟨P, 10, none⟩ = some (.int .i64 x.ono) ∧ w.cell? ⟨P, 11, none⟩ = some (.string x.sum) := by
  refine ⟨?_, ?_, ?_, ?_, ?_, ?_, ?_, ?_, ?_, ?_, ?_, ?_⟩ <;> (rw [cell_of_row w P _ _ _ _ h]; rfl)
theorem DeedAt.f {w : World} {P : Nat} {x : Deed} (h : DeedAt w P x) : w.frozen? ⟨P, 0, none⟩ = false ∧ w.frozen? ⟨P, 1, none⟩ = false ∧ w.frozen? ⟨P, 2, none⟩ = false ∧ w.frozen? ⟨P, 3, none⟩ = false ∧ w.frozen? ⟨P, 4, none⟩ = false ∧ w.frozen? ⟨P, 5, none⟩ = false ∧ w.frozen? ⟨P, 6, none⟩ = false ∧ w.frozen? ⟨P, 7, none⟩ = false ∧ w.frozen? ⟨P, 8, none⟩ = false ∧ w.frozen? ⟨P, 9, none⟩ = false ∧ w.frozen? ⟨P, 10, none⟩ = false ∧ w.frozen? ⟨P, 11, none⟩ = false := by
  unfold DeedAt at h
  refine ⟨?_, ?_, ?_, ?_, ?_, ?_, ?_, ?_, ?_, ?_, ?_, ?_⟩ <;> simp [World.frozen?, h]
theorem deed_ne_str : DeedE.t ≠ StrE.t := by decide
end Go.Proofs.YthogkcgklakibaaGreatDoor
