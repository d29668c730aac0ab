
/-
  The pairs that keptOf finds, as a function of two lists. Plain lists.
-/
import Derived.Test.YtmaimojpjepmjaaGreatDoorLcsPlain
namespace Go.Proofs.YtmaimojpjepmjaaGreatDoor

section
variable {α : Type} [DecidableEq α]
def findK (p : Nat → Bool) : Nat → Nat → Option Nat
  | 0, _ => none
  | f + 1, k => if p k then some k else findK p f (k + 1)
theorem findK_hit {p : Nat → Bool} {f k : Nat} (h : p k = true) : findK p (f + 1) k = some k := by rw [findK, if_pos h]
theorem findK_miss {p : Nat → Bool} {f k : Nat} (h : p k = false) : findK p (f + 1) k = findK p f (k + 1) := by rw [findK, if_neg (by rw [h]; decide)]
def hitB (x y : List α) (i j k : Nat) : Bool := decide (x[i]? = y[k]?) && (lcs (x.drop (i + 1)) (y.drop (k + 1)) + 1 == lcs (x.drop i) (y.drop j))
def keptR (x y : List α) : Nat → Nat → Nat → List (Nat × Nat)
  | 0, _, _ => []
  | f + 1, i, j => match findK (hitB x y i j) (y.length - j) j with
    | some k => (i, k) :: keptR x y f (i + 1) (k + 1)
    | none => keptR x y f (i + 1) j
theorem keptR_some {x y : List α} {f i j k : Nat} (h : findK (hitB x y i j) (y.length - j) j = some k) : keptR x y (f + 1) i j = (i, k) :: keptR x y f (i + 1) (k + 1) := by rw [keptR, h]
theorem keptR_none {x y : List α} {f i j : Nat} (h : findK (hitB x y i j) (y.length - j) j = none) : keptR x y (f + 1) i j = keptR x y f (i + 1) j := by rw [keptR, h]
/-- A cell of the table where the tokens are the same: the greatest of the three. -/
theorem lcs_max {x y : List α} {i j : Nat} {t u : α} (hx : x[i]? = some t) (hy : y[j]? = some u) :
    lcs (x.drop i) (y.drop j) = if t = u then max (max (lcs (x.drop (i + 1)) (y.drop j)) (lcs (x.drop i) (y.drop (j + 1)))) (lcs (x.drop (i + 1)) (y.drop (j + 1)) + 1) else max (lcs (x.drop (i + 1)) (y.drop j)) (lcs (x.drop i) (y.drop (j + 1))) := by
  have h0 := lcs_drop hx hy
  by_cases h : t = u
  · rw [if_pos h] at h0 ⊢
    obtain ⟨h1, h2⟩ := List.getElem?_eq_some_iff.1 hx
    obtain ⟨h3, h4⟩ := List.getElem?_eq_some_iff.1 hy
    have ex : x.drop i = t :: x.drop (i + 1) := by rw [List.drop_eq_getElem_cons h1, h2]
    have ey : y.drop j = u :: y.drop (j + 1) := by rw [List.drop_eq_getElem_cons h3, h4]
    have a1 := lcs_one' u (x.drop (i + 1)) (y.drop (j + 1))
    have a2 := (lcs_step _ t (x.drop (i + 1)) (y.drop (j + 1)) (Nat.le_refl _)).2
    rw [← ey] at a1
    rw [← ex] at a2
    omega
  · rw [if_neg h] at h0 ⊢
    exact h0
end
end Go.Proofs.YtmaimojpjepmjaaGreatDoor
