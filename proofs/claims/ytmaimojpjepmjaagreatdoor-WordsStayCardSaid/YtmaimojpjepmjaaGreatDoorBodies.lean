
/-
  Bodies makes a few documents: not many and none of the id zz, or documents of too many bytes together.
-/
import Derived.Test.YtmaimojpjepmjaaGreatDoorOrder
import Derived.Test.YtmaimojpjepmjaaGreatDoorOwnSet
import Derived.Test.YtmaimojpjepmjaaGreatDoorProse
import Derived.Test.YtmaimojpjepmjaaGreatDoorShelf
import Derived.Test.YtmaimojpjepmjaaGreatDoorFaultPlain
namespace Go.Proofs.YtmaimojpjepmjaaGreatDoor
open Go.RowKit

def zz : ByteArray := ⟨#[122, 122]⟩
def TextOk (x : Body2) : Prop := x.2.size ≤ 20001 ∧ x.1.size ≤ 10
def BodiesSay (most : Nat) (l : List (ByteArray × ByteArray)) : Prop :=
  l.length ≤ most + 26 ∧ (∀ x ∈ l, TextOk x) ∧ ((l.length ≤ most ∧ ∀ x ∈ l, x.1 ≠ zz) ∨ 500000 < totB l)
theorem id_le (b : ByteArray) (x : Int) (hb : b.size = 1) : (b ++ Utf8.encode x).size ≤ 10 := by have := encode_size_le x; rw [ByteArray.size_append]; omega
theorem b_ne (x : Int) : (⟨#[98]⟩ ++ Utf8.encode x : ByteArray) ≠ zz := by
  intro h
  have := congrArg (fun b : ByteArray => b.data.toList.head?) h
  simp [zz] at this

theorem two_set1 {w : World} {P : Nat} {a b : Value} {t : TypeId} {fr : Nat × Nat} (h : w.heap[P]? = some (.cells #[a, b] t fr)) (v : Value) : (w.setCell ⟨P, 1, none⟩ v).heap[P]? = some (.cells #[a, v] t fr) := by
  simp [World.setCell, Array.getElem?_modify, h]
theorem two_set0 {w : World} {P : Nat} {a b : Value} {t : TypeId} {fr : Nat × Nat} (h : w.heap[P]? = some (.cells #[a, b] t fr)) (v : Value) : (w.setCell ⟨P, 0, none⟩ v).heap[P]? = some (.cells #[v, b] t fr) := by
  simp [World.setCell, Array.getElem?_modify, h]
theorem two_cell {w : World} {P : Nat} {a b : Value} {t : TypeId} (h : w.heap[P]? = some (.cells #[a, b] t (0, 0))) : w.cell? ⟨P, 0, none⟩ = some a ∧ w.cell? ⟨P, 1, none⟩ = some b ∧ w.frozen? ⟨P, 0, none⟩ = false ∧ w.frozen? ⟨P, 1, none⟩ = false := by
  refine ⟨by rw [cell_of_row w P 0 _ _ _ h]; rfl, by rw [cell_of_row w P 1 _ _ _ h]; rfl, by simp [World.frozen?, h], by simp [World.frozen?, h]⟩
theorem grown_set {a w : World} {g P : Nat} {o : Nat} (h : a.grownBy w (some g)) (hP : a.heap.size ≤ P) (v : Value) : a.grownBy (w.setCell ⟨P, o, none⟩ v) (some g) := grown_row h (grown_setCell w P o v) (fun i hi => by cases hi; exact hP)

theorem say_of {most : Nat} {l : List Body2} (h : l.length ≤ most ∧ ∀ y ∈ l, TextOk y ∧ y.1 ≠ zz) : BodiesSay most l := ⟨by omega, fun x hx => (h.2 x hx).1, .inl ⟨h.1, fun x hx => (h.2 x hx).2⟩⟩
theorem mem_set_or {α : Type} {l : List α} {j : Nat} {y z : α} (h : z ∈ l.set j y) : z = y ∨ z ∈ l := by
  rcases List.mem_or_eq_of_mem_set h with h | h
  · exact .inr h
  · exact .inl h
theorem say_set0 {most : Nat} {l : List Body2} {j : Nat} {x : Body2} {r : ByteArray} (h : l.length ≤ most ∧ ∀ y ∈ l, TextOk y ∧ y.1 ≠ zz) (hx : l[j]? = some x) (hr : r ∈ [(⟨#[]⟩ : ByteArray), ⟨#[98, 97]⟩, ⟨#[66]⟩]) : BodiesSay most (l.set j (r, x.2)) := by
  have hz : r ≠ zz := by
    simp only [List.mem_cons, List.not_mem_nil, or_false] at hr
    intro e
    subst e
    rcases hr with h | h | h <;> (have h2 := congrArg (fun b : ByteArray => b.data.toList) h; simp [zz] at h2)
  have hrl : r.size ≤ 10 := by
    simp only [List.mem_cons, List.not_mem_nil, or_false] at hr
    rcases hr with rfl | rfl | rfl <;> decide
  have hm := List.mem_of_getElem? hx
  refine ⟨by rw [List.length_set]; omega, fun y hy => ?_, .inl ⟨by rw [List.length_set]; exact h.1, fun y hy => ?_⟩⟩
  · rcases mem_set_or hy with rfl | hy
    · exact ⟨(h.2 x hm).1.1, hrl⟩
    · exact (h.2 y hy).1
  · rcases mem_set_or hy with rfl | hy
    · exact hz
    · exact (h.2 y hy).2
theorem say_set1 {most : Nat} {l : List Body2} {j : Nat} {x : Body2} {r : ByteArray} (h : l.length ≤ most ∧ ∀ y ∈ l, TextOk y ∧ y.1 ≠ zz) (hx : l[j]? = some x) (hr : r.size ≤ 20001) : BodiesSay most (l.set j (x.1, r)) := by
  have hm := List.mem_of_getElem? hx
  refine ⟨by rw [List.length_set]; omega, fun y hy => ?_, .inl ⟨by rw [List.length_set]; exact h.1, fun y hy => ?_⟩⟩
  · rcases mem_set_or hy with rfl | hy
    · exact ⟨hr, (h.2 x hm).1.2⟩
    · exact (h.2 y hy).1
  · rcases mem_set_or hy with rfl | hy
    · exact (h.2 x hm).2
    · exact (h.2 y hy).2
theorem totB_all (l : List Body2) (m : Nat) (h : ∀ x ∈ l, x.2.size = m) : totB l = m * l.length := by
  induction l with
  | nil => simp [totB]
  | cons x l ih =>
    have h1 := ih (fun y hy => h y (List.mem_cons_of_mem _ hy))
    have h2 := h x List.mem_cons_self
    simp only [totB, List.map_cons, List.sum_cons, List.length_cons, Nat.mul_add, Nat.mul_one] at *
    omega
theorem say_26 {most : Nat} {l l2 : List Body2} (h : l.length ≤ most ∧ ∀ x ∈ l, TextOk x) (h2 : l2.length = 26) (h3 : ∀ x ∈ l2, x.2.size = 20000) (h4 : ∀ x ∈ l2, x.1.size ≤ 10) : BodiesSay most (l ++ l2) := by
  refine ⟨by rw [List.length_append]; omega, fun x hx => ?_, .inr ?_⟩
  · rcases List.mem_append.1 hx with hx | hx
    · exact h.2 x hx
    · exact ⟨by rw [h3 x hx]; omega, h4 x hx⟩
  · rw [totB_append, totB_all l2 20000 h3, h2]; omega
theorem rep_size (u : List UInt8) (z : Nat) : (⟨(Lib.repeatL u z).toArray⟩ : ByteArray).size = z * u.length := by
  have h := Lib.repeatL_length u z
  simp only [ByteArray.size, List.size_toArray]
  rw [h]

end Go.Proofs.YtmaimojpjepmjaaGreatDoor
