
/-
  A plain string has no blank at its ends: in plain lists.
-/
import Derived.Test.YthogkcgklakibaaGreatDoorElems
import Derived.Lib.TrimByte
namespace Go.Proofs.YthogkcgklakibaaGreatDoor

theorem trimB_head {l : List UInt8} {c : UInt8} (h : Lib.trimB l c = l) : Lib.hasPrefix l [c] = false := by
  have h1 := List.head?_dropWhile_not (· == c) (Lib.trimRightB l c)
  have e : (Lib.trimRightB l c).dropWhile (· == c) = l := h
  rw [e] at h1
  cases l with
  | nil => rfl
  | cons b t =>
    simp only [List.head?_cons] at h1
    have h2 : (c == b) = false := by
      rw [Bool.eq_false_iff] at h1 ⊢
      intro e2
      exact h1 (by rw [beq_iff_eq] at e2 ⊢; exact e2.symm)
    simp [Lib.hasPrefix, List.isPrefixOf, h2]
theorem trimB_last {l : List UInt8} {c : UInt8} (h : Lib.trimB l c = l) : Lib.hasSuffix l [c] = false := by
  have e : (Lib.trimRightB l c).dropWhile (· == c) = l := h
  have h1 := (List.dropWhile_suffix (· == c) (l := Lib.trimRightB l c)).length_le
  rw [e] at h1
  have h2 : (Lib.trimRightB l c).length = (l.reverse.dropWhile (· == c)).length := by simp [Lib.trimRightB]
  have h3 := (List.dropWhile_suffix (· == c) (l := l.reverse))
  have h4 := h3.length_le
  have h5 : l.reverse.dropWhile (· == c) = l.reverse := h3.eq_of_length (by rw [List.length_reverse] at h4 ⊢; omega)
  have h6 := List.head?_dropWhile_not (· == c) l.reverse
  rw [h5] at h6
  unfold Lib.hasSuffix List.isSuffixOf
  generalize l.reverse = r at h6
  cases r with
  | nil => rfl
  | cons b t =>
    simp only [List.head?_cons] at h6
    have h2 : (c == b) = false := by
      rw [Bool.eq_false_iff] at h6 ⊢
      intro e2
      exact h6 (by rw [beq_iff_eq] at e2 ⊢; exact e2.symm)
    simp [List.isPrefixOf, h2]
end Go.Proofs.YthogkcgklakibaaGreatDoor
