
/-
  What kept returns: rising pairs of equal tokens, as many as the longest common list has.
-/
import Derived.Test.YtmaimojpjepmjaaGreatDoorStrLib
import Derived.Test.YtmaimojpjepmjaaGreatDoorKeptPlain
namespace Go.Proofs.YtmaimojpjepmjaaGreatDoor
open Go.RowKit

def idxI (l : List (List UInt8)) (x : List UInt8) : Int := Lib.idxOfS (l.map bag) (bag x)
theorem idxI_first (l : List (List UInt8)) (x : List UInt8) : FirstAt l x (idxI l x) := by
  have := firstAt_idx (bag x) l 0
  rw [bag_data] at this
  simpa [FirstAt, idxI, Lib.idxOfS] using this
theorem index_q (A : Option Addr) (n c : Nat) (l : List (List UInt8)) (x : List UInt8) (w : World) (h : StrsAt w A n c l) (hn : n ≤ 100000) :
    Calls Tryz.prog 34 #[.slice A n c, .string ⟨x.toArray⟩] w fun e w' => e = .returned (.int .i64 (idxI l x)) ∧ w' = w := by
  have hl := h.1
  rcases Nat.eq_zero_or_pos n with h0 | h0
  · subst h0
    have e1 : l = [] := List.eq_nil_of_length_eq_zero hl.symm
    subst e1
    exact Tryz.slices_Index_string_empty A c (bag x) w
  · obtain ⟨g1, o1, rfl, _, _⟩ := h.str h0
    refine (Tryz.slices_Index_string g1 o1 n c (l.map bag) (bag x) w (by simp; omega) (by omega) h.bags).mono ?_
    rintro e w' ⟨rfl, rfl⟩
    rw [List.take_of_length_le (by simp; omega)]
    exact ⟨rfl, rfl⟩

def KeptPost (w : World) (x y : List (List UInt8)) (e : Ending) (w' : World) : Prop :=
  ∃ (v : Value) (l : List (Nat × Nat)) (i j : Nat), e = .returned v ∧ Owns PairE w' w.heap.size v l ∧ GoodTo x y 0 0 l i j ∧ i ≤ x.length ∧ j ≤ y.length ∧ l.length = lcs x y ∧ Below w.heap.size w w'

end Go.Proofs.YtmaimojpjepmjaaGreatDoor
