
/-
  What Tokens and Join return.
-/
import Derived.Test.YtabdjkcediolcaaGreatDoorStrLib
namespace Go.Proofs.YtabdjkcediolcaaGreatDoor
open Go.RowKit

theorem tokLines_pre (a b : List (List UInt8)) : (tokLines a).length ≤ (tokLines (a ++ b)).length := by
  cases a with
  | nil => simp [tokLines]
  | cons x a => simp [tokLines]
theorem filter_take_le (l : List (List UInt8)) (j : Nat) : ((l.take j).filter fun w => !w.isEmpty).length ≤ (l.filter fun w => !w.isEmpty).length :=
  (List.Sublist.filter _ (List.take_sublist j l)).length_le
theorem filter_snoc (l : List (List UInt8)) (j : Nat) (h : j < l.length) : (l.take (j + 1)).filter (fun w => !w.isEmpty) = (l.take j).filter (fun w => !w.isEmpty) ++ (if l.getD j [] = [] then [] else [l.getD j []]) := by
  rw [List.take_succ_eq_append_getElem h, List.filter_append]
  simp only [List.getD_eq_getElem?_getD, List.getElem?_eq_getElem h, Option.getD_some]
  congr 1
  cases hx : l[j] with
  | nil => simp
  | cons a b => simp
theorem tok_step (L : List UInt8) (k : Nat) (h : k < (splitC 10 L).length) : tokLines ((splitC 10 L).take (k + 1)) = tokLines ((splitC 10 L).take k) ++ (if k = 0 then [] else [[10]]) ++ lnTok ((splitC 10 L).getD k []) := by
  have e : (splitC 10 L).take (k + 1) = (splitC 10 L).take k ++ [(splitC 10 L).getD k []] := by
    rw [List.take_succ_eq_append_getElem h]; simp [h]
  rw [e, tokLines_snoc, List.append_assoc]
  congr 2
  cases k with
  | zero => simp
  | succ k =>
    have : (splitC 10 L).take (k + 1) ≠ [] := by
      intro h0
      have := congrArg List.length h0
      rw [List.length_take] at this
      simp only [List.length_nil] at this; omega
    simp [this]
theorem tok_le (L : List UInt8) (k : Nat) : (tokLines ((splitC 10 L).take k)).length ≤ L.length := by
  have h := tokLines_pre ((splitC 10 L).take k) ((splitC 10 L).drop k)
  rw [List.take_append_drop] at h
  exact Nat.le_trans h (tokL_length L)
theorem splitC_length (c : UInt8) (L : List UInt8) : (splitC c L).length ≤ L.length + 1 := by have := splitC_sum c L; omega
theorem splitC_at (c : UInt8) (L : List UInt8) (k : Nat) : ((splitC c L).getD k []).length ≤ L.length := by
  by_cases h : k < (splitC c L).length
  · have h1 := splitC_sum c L
    have h2 := lensL_mem (splitC c L) ((splitC c L).getD k []) (by simp [h])
    unfold lensL at h2
    omega
  · rw [List.getD_eq_getElem?_getD, List.getElem?_eq_none (by omega)]; simp

theorem bag_empty {x : List UInt8} : (bag x).toList.isEmpty = x.isEmpty := by rw [Lib.toList_data, bag_data]
theorem bag_nil {x : List UInt8} : (bag x).toList = [] ↔ x = [] := by rw [Lib.toList_data, bag_data]

def TokensPost (w : World) (L : List UInt8) (e : Ending) (w' : World) : Prop := ∃ v, e = .returned v ∧ OwnStrs w' w.heap.size v (tokL L) ∧ Below w.heap.size w w'

def sepB (k : Nat) (p t : List UInt8) : Bool := decide (0 < k) && decide (t ≠ [10]) && decide (p ≠ [10])
def JoinPost (w : World) (l : List (List UInt8)) (e : Ending) (w' : World) : Prop := e = .returned (.string (bag (joinL l))) ∧ Below w.heap.size w w'
theorem joinL_pre (l : List (List UInt8)) (k : Nat) : (joinL (l.take k)).length ≤ lensL l + l.length := by
  have h1 := joinL_lens (l.take k)
  have h2 : lensL (l.take k) ≤ lensL l := by
    have := lensL_append (l.take k) (l.drop k)
    rw [List.take_append_drop] at this; omega
  have h3 : (l.take k).length ≤ l.length := by rw [List.length_take]; omega
  omega
theorem lensL_at (l : List (List UInt8)) (k : Nat) : (l.getD k []).length ≤ lensL l := by
  by_cases h : k < l.length
  · exact lensL_mem l _ (by simp [h])
  · rw [List.getD_eq_getElem?_getD, List.getElem?_eq_none (by omega)]; simp

end Go.Proofs.YtabdjkcediolcaaGreatDoor
