
/-
  A number divided over sizes by greatest remainders: what is given adds up, and none is greater than its size. Plain lists.
-/
import Derived.Test.YtiegbbngfojjoaaGreatDoorFaultPlain
namespace Go.Proofs.YtiegbbngfojjoaaGreatDoor
open Go

/-- One more at some places. -/
def bump (l : List Nat) (is : List Nat) : List Nat := is.foldl (fun l i => l.set i (l.getD i 0 + 1)) l
theorem bump_length (is : List Nat) : ∀ l : List Nat, (bump l is).length = l.length := by
  induction is with
  | nil => intro l; rfl
  | cons i is ih => intro l; show (bump (l.set i (l.getD i 0 + 1)) is).length = _; rw [ih]; simp
theorem sum_set (l : List Nat) (i : Nat) (h : i < l.length) : (l.set i (l.getD i 0 + 1)).sum = l.sum + 1 := by
  induction l generalizing i with
  | nil => simp at h
  | cons a l ih =>
    cases i with
    | zero => simp; omega
    | succ i =>
      have := ih i (by simpa using h)
      simp only [List.set_cons_succ, List.sum_cons, List.getD_cons_succ]
      omega
theorem bump_sum (is : List Nat) : ∀ l : List Nat, (∀ i ∈ is, i < l.length) → (bump l is).sum = l.sum + is.length := by
  induction is with
  | nil => intro l _; rfl
  | cons i is ih =>
    intro l h
    show (bump (l.set i (l.getD i 0 + 1)) is).sum = _
    rw [ih _ (fun k hk => by rw [List.length_set]; exact h k (List.mem_cons_of_mem _ hk)), sum_set l i (h i (by simp)), List.length_cons]
    omega
theorem bump_at (is : List Nat) : ∀ l : List Nat, is.Nodup → ∀ k, (bump l is).getD k 0 = l.getD k 0 + (if k ∈ is ∧ k < l.length then 1 else 0) := by
  induction is with
  | nil => intro l _ k; simp [bump]
  | cons i is ih =>
    intro l hn k
    rw [List.nodup_cons] at hn
    show (bump (l.set i (l.getD i 0 + 1)) is).getD k 0 = _
    rw [ih _ hn.2 k, List.length_set]
    by_cases hk : k = i
    · subst hk
      rw [if_neg (fun h => hn.1 h.1)]
      by_cases hl : k < l.length
      · rw [if_pos ⟨by simp, hl⟩]
        simp [hl]
      · rw [if_neg (fun h => hl h.2)]
        simp [List.getD_eq_getElem?_getD, hl]
    · have e : (l.set i (l.getD i 0 + 1)).getD k 0 = l.getD k 0 := by
        simp only [List.getD_eq_getElem?_getD]
        rw [List.getElem?_set_ne (fun e => hk e.symm)]
      rw [e]
      congr 1
      simp [hk]
end Go.Proofs.YtiegbbngfojjoaaGreatDoor
