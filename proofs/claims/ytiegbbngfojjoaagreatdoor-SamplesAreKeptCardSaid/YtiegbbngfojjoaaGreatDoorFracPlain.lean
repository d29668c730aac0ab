
/-
  How much two rising lists share, and fractions in lowest terms. Plain lists and numbers.
-/
import Derived.WalkLawsBesides
import Derived.Lib.Hide
namespace Go.Proofs.YtiegbbngfojjoaaGreatDoor
open Go

/-- The library's comparison of two strings. -/
def cmpS (a b : List UInt8) : Int := if Op.bytesLess a b then -1 else if Op.bytesLess b a then 1 else 0
def sharedL : List (List UInt8) → List (List UInt8) → Nat
  | [], _ => 0
  | _ :: _, [] => 0
  | a :: as, b :: bs => if cmpS a b < 0 then sharedL as (b :: bs) else if 0 < cmpS a b then sharedL (a :: as) bs else sharedL as bs + 1
termination_by x y => x.length + y.length
theorem sharedL_nil (x : List (List UInt8)) : sharedL x [] = 0 := by cases x <;> simp [sharedL]
theorem sharedL_nil' (x : List (List UInt8)) : sharedL [] x = 0 := by simp [sharedL]
theorem sharedL_drop {x y : List (List UInt8)} {i j : Nat} {s t : List UInt8} (hx : x[i]? = some s) (hy : y[j]? = some t) :
    sharedL (x.drop i) (y.drop j) = if cmpS s t < 0 then sharedL (x.drop (i + 1)) (y.drop j) else if 0 < cmpS s t then sharedL (x.drop i) (y.drop (j + 1)) else sharedL (x.drop (i + 1)) (y.drop (j + 1)) + 1 := by
  obtain ⟨hl, rfl⟩ := List.getElem?_eq_some_iff.1 hx
  obtain ⟨hm, rfl⟩ := List.getElem?_eq_some_iff.1 hy
  rw [List.drop_eq_getElem_cons hl, List.drop_eq_getElem_cons hm, sharedL]
theorem sharedL_le : ∀ (n : Nat) (x y : List (List UInt8)), x.length + y.length ≤ n → sharedL x y ≤ x.length ∧ sharedL x y ≤ y.length := by
  intro n
  induction n with
  | zero => intro x y h; cases x <;> cases y <;> simp_all [sharedL]
  | succ n ih =>
    intro x y h
    cases x with
    | nil => rw [sharedL_nil']; omega
    | cons a as =>
      cases y with
      | nil => rw [sharedL_nil]; simp
      | cons b bs =>
        simp only [List.length_cons] at h ⊢
        have h1 := ih as (b :: bs) (by simp only [List.length_cons]; omega)
        have h2 := ih (a :: as) bs (by simp only [List.length_cons]; omega)
        have h3 := ih as bs (by omega)
        simp only [List.length_cons] at h1 h2
        rw [sharedL]
        split
        · omega
        · split <;> omega

/-- A fraction in lowest terms; 1, if there is nothing. -/
def fracL (num den : Nat) : Nat × Nat := if den = 0 then (1, 1) else (num / Nat.gcd num den, den / Nat.gcd num den)
theorem gcd_pos (num den : Nat) (h : den ≠ 0) : 0 < Nat.gcd num den := Nat.gcd_pos_of_pos_right _ (Nat.pos_of_ne_zero h)
theorem gcd_le (num den : Nat) (h : den ≠ 0) : Nat.gcd num den ≤ den := Nat.gcd_le_right _ (Nat.pos_of_ne_zero h)
def likeL (x y : List (List UInt8)) : Nat × Nat := fracL (sharedL x y) (x.length + y.length - sharedL x y)

end Go.Proofs.YtiegbbngfojjoaaGreatDoor
