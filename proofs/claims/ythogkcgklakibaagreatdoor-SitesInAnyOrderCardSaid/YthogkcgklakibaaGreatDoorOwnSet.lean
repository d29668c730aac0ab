
/-
  A slice of the call's own: where it lies, what its cells hold, and one cell that is set.
-/
import Derived.Test.YthogkcgklakibaaGreatDoorElems
namespace Go.Proofs.YthogkcgklakibaaGreatDoor
open Go.RowKit
section
variable {α : Type} {E : Elem α}

theorem Owns.where_ (hE : E.Ok) {w : World} {base : Nat} {v : Value} {l : List α} (h : Owns E w base v l) (h0 : 0 < l.length) : ∃ G c, v = .slice (some ⟨G, 0, none⟩) l.length c ∧ base ≤ G ∧ G < w.heap.size ∧ ∀ k x i u, l[k]? = some x → (E.enc x)[i]? = some u → w.cell? ⟨G, k * E.size + i, none⟩ = some u ∧ w.frozen? ⟨G, k * E.size + i, none⟩ = false := by
  rcases h.2 with ⟨rfl, hn⟩ | ⟨g, cap, cur, rfl, hbase, hb, h1, h2, h3, h4⟩
  · omega
  · refine ⟨g, cap, rfl, hbase, (Array.getElem?_eq_some_iff.1 hb).1, fun k x i u hk hi => ⟨?_, by simp [World.frozen?, hb]⟩⟩
    have hi2 : i < E.size := by rw [← hE.len x]; exact (List.getElem?_eq_some_iff.1 hi).1
    have h5 := Elem.cells_at hE l k x i hk hi2
    rw [cell_of_row w g _ _ _ _ hb, ← Array.getElem?_toList]
    rw [← h4] at h5
    rw [← hi, ← h5, List.getElem?_take_of_lt]
    have h6 := (List.getElem?_eq_some_iff.1 (h5.trans hi)).1
    rw [List.length_take] at h6
    omega
theorem Elem.cells_set (hE : E.Ok) : ∀ (l : List α) (k : Nat) (x x' : α) (i : Nat) (v : Value), l[k]? = some x → i < E.size → E.enc x' = (E.enc x).set i v → E.cells (l.set k x') = (E.cells l).set (k * E.size + i) v
  | [], k, x, x', i, v, h, _, _ => by simp at h
  | y :: l, 0, x, x', i, v, h, hi, he => by
    simp only [List.getElem?_cons_zero, Option.some.injEq] at h
    subst h
    simp only [List.set_cons_zero, Elem.cells, List.flatMap_cons, Nat.zero_mul, Nat.zero_add]
    rw [List.set_append_left _ _ (by rw [hE.len]; exact hi), he]
  | y :: l, k + 1, x, x', i, v, h, hi, he => by
    simp only [List.getElem?_cons_succ] at h
    have ih := Elem.cells_set hE l k x x' i v h hi he
    simp only [List.set_cons_succ, Elem.cells, List.flatMap_cons] at ih ⊢
    have hs : E.size ≤ (k + 1) * E.size + i := by rw [Nat.succ_mul]; omega
    rw [List.set_append_right _ _ (by rw [hE.len]; exact hs), ih, hE.len, show (k + 1) * E.size + i - E.size = k * E.size + i by rw [Nat.succ_mul]; omega]
theorem Owns.set_ (hE : E.Ok) {w : World} {base G c n : Nat} {l : List α} (h : Owns E w base (.slice (some ⟨G, 0, none⟩) n c) l) (k : Nat) (x x' : α) (i : Nat) (u : Value) (hk : l[k]? = some x) (hi : i < E.size) (he : E.enc x' = (E.enc x).set i u) : Owns E (w.setCell ⟨G, k * E.size + i, none⟩ u) base (.slice (some ⟨G, 0, none⟩) n c) (l.set k x') := by
  refine ⟨by rw [Elem.cells_length hE], ?_⟩
  rcases h.2 with ⟨h0, _⟩ | ⟨g, cap, cur, he', hbase, hb, h1, h2, h3, h4⟩
  · cases h0
  · simp only [Value.slice.injEq, Option.some.injEq, Addr.mk.injEq] at he'
    obtain ⟨⟨rfl, _⟩, hn, rfl⟩ := he'
    refine .inr ⟨G, c, cur.setIfInBounds (k * E.size + i) u, by rw [List.length_set, ← hn], hbase, by simp [World.setCell, Array.getElem?_modify, hb], by rw [List.length_set]; exact h1, h2, by simpa using h3, ?_⟩
    rw [List.length_set]
    rw [Elem.cells_set hE l k x x' i u hk hi he, Array.toList_setIfInBounds, List.take_set, h4]
end
end Go.Proofs.YthogkcgklakibaaGreatDoor
