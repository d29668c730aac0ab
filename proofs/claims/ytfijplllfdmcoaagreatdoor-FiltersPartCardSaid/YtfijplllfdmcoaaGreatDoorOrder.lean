
/-
  Order makes some order of the numbers below n.
-/
import Derived.Test.YtfijplllfdmcoaaGreatDoorElems
import Derived.RegionTactic
namespace Go.Proofs.YtfijplllfdmcoaaGreatDoor
open Go.RowKit

def IntE : Elem Int := ⟨3, 22, 1, 8, .int .i64 0, fun z => [.int .i64 z]⟩
theorem intE_ok : IntE.Ok := ⟨fun _ => rfl, fun x u hu => by simp [IntE] at hu; subst hu; rfl, by decide, by decide, by kernel_rfl, by kernel_rfl, Tryz.underlying22⟩
theorem intE_cells (l : List Int) : IntE.cells l = l.map (Value.int .i64) := by
  induction l with
  | nil => rfl
  | cons x l ih => simp only [Elem.cells, List.flatMap_cons, List.map_cons] at *; rw [ih]; rfl
theorem Owns.ints {w : World} {base : Nat} {v : Value} {l : List Int} (h : Owns IntE w base v l) (h0 : 0 < l.length) : ∃ G c, v = .slice (some ⟨G, 0, none⟩) l.length c ∧ base ≤ G ∧ G < w.heap.size ∧ ∀ k, k < l.length → w.cell? ⟨G, k, none⟩ = some (.int .i64 (l.getD k 0)) ∧ w.frozen? ⟨G, k, none⟩ = false := by
  rcases h.2 with ⟨rfl, hn⟩ | ⟨g, cap, cur, rfl, hbase, hb, h1, h2, h3, h4⟩
  · omega
  · refine ⟨g, cap, rfl, hbase, (Array.getElem?_eq_some_iff.1 hb).1, fun k hk => ⟨?_, by simp [World.frozen?, hb]⟩⟩
    rw [cell_of_row w g k _ _ _ hb]
    have h5 := congrArg (fun x => x[k]?) h4
    rw [show l.length * IntE.size = l.length from Nat.mul_one _, intE_cells] at h5
    simp only [List.getElem?_take_of_lt hk, List.getElem?_map, List.getElem?_eq_getElem hk, Option.map_some] at h5
    rw [← Array.getElem?_toList, h5]
    simp [hk]
theorem Owns.setInt {w : World} {base G c n : Nat} {l : List Int} (h : Owns IntE w base (.slice (some ⟨G, 0, none⟩) n c) l) (k : Nat) (z : Int) : Owns IntE (w.setCell ⟨G, k, none⟩ (.int .i64 z)) base (.slice (some ⟨G, 0, none⟩) n c) (l.set k z) := by
  have hl := h.1
  refine ⟨by rw [Elem.cells_length intE_ok], ?_⟩
  rcases h.2 with ⟨h0, _⟩ | ⟨g, cap, cur, he, hbase, hb, h1, h2, h3, h4⟩
  · cases h0
  · simp only [Value.slice.injEq, Option.some.injEq, Addr.mk.injEq] at he
    obtain ⟨⟨rfl, _⟩, hn, rfl⟩ := he
    refine .inr ⟨G, c, cur.setIfInBounds k (.int .i64 z), by rw [List.length_set, ← hn], hbase, by simp [World.setCell, Array.getElem?_modify, hb], by rw [List.length_set]; exact h1, h2, by simpa using h3, ?_⟩
    rw [List.length_set, show l.length * IntE.size = l.length from Nat.mul_one _] at *
    rw [intE_cells] at h4 ⊢
    rw [Array.toList_setIfInBounds, List.take_set, h4, List.map_set]

def OrderPost (w : World) (g : Nat) (A : Option Addr) (n c K m : Nat) (e : Ending) (w' : World) : Prop :=
  ∃ (v : Value) (l : List Int), e = .returned v ∧ Owns IntE w' w.heap.size v l ∧ l.Perm ((List.range m).map Int.ofNat) ∧ StreamAt w' g A n c (K + m) ∧ w.grownBy w' (some g)

end Go.Proofs.YtfijplllfdmcoaaGreatDoor
