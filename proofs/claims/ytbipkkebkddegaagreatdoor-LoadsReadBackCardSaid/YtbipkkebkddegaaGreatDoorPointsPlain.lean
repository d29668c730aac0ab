
/-
  Plain facts on code points in bytes: where a place inside of one begins and ends.
-/
import Derived.Test.YtbipkkebkddegaaGreatDoorTextPlain
namespace Go.Proofs.YtbipkkebkddegaaGreatDoor
open Go

/-- A place inside of a code point. -/
def insB (l : List UInt8) (i : Nat) : Bool := decide (i < l.length) && decide ((l.getD i 0).toNat / 64 = 2)
/-- The beginning of the code point of a place. -/
def down (l : List UInt8) : Nat → Nat
  | 0 => 0
  | n + 1 => if insB l (n + 1) then down l n else n + 1
def upF (l : List UInt8) : Nat → Nat → Nat
  | 0, n => n
  | f + 1, n => if insB l n then upF l f (n + 1) else n
/-- The first place from n on that is not inside of a code point. -/
def up (l : List UInt8) (n : Nat) : Nat := upF l (l.length - n) n

theorem insB_lt {l : List UInt8} {i : Nat} (h : insB l i = true) : i < l.length := by
  simp [insB] at h; exact h.1
theorem up_step {l : List UInt8} {n : Nat} (h : insB l n = true) : up l n = up l (n + 1) := by
  have hl := insB_lt h
  unfold up
  rw [show l.length - n = (l.length - (n + 1)) + 1 by omega]
  simp [upF, h]
theorem up_stop {l : List UInt8} {n : Nat} (h : insB l n = false) : up l n = n := by
  unfold up
  cases l.length - n <;> simp [upF, h]
theorem down_step {l : List UInt8} {n : Nat} (h : insB l (n + 1) = true) : down l (n + 1) = down l n := by simp [down, h]
theorem down_stop {l : List UInt8} {n : Nat} (h : insB l n = false) : down l n = n := by
  cases n with
  | zero => rfl
  | succ n => simp [down, h]
theorem down_le (l : List UInt8) : ∀ n, down l n ≤ n
  | 0 => Nat.le_refl _
  | n + 1 => by
    unfold down
    split
    · exact Nat.le_succ_of_le (down_le l n)
    · exact Nat.le_refl _
theorem le_upF (l : List UInt8) : ∀ f n, n ≤ upF l f n
  | 0, _ => Nat.le_refl _
  | f + 1, n => by
    unfold upF
    split
    · exact Nat.le_trans (Nat.le_succ n) (le_upF l f (n + 1))
    · exact Nat.le_refl _
theorem le_up (l : List UInt8) (n : Nat) : n ≤ up l n := le_upF l _ n
theorem up_le (l : List UInt8) : ∀ k n, l.length - n = k → n ≤ l.length → up l n ≤ l.length := by
  intro k
  induction k with
  | zero =>
    intro n hk hn
    have : insB l n = false := by simp [insB]; omega
    rw [up_stop this]; exact hn
  | succ k ih =>
    intro n hk hn
    cases h : insB l n
    · rw [up_stop h]; exact hn
    · rw [up_step h]; exact ih (n + 1) (by omega) (by omega)

/-- Whole code points. -/
def pointsL (l : List UInt8) (s : List (Int × Int)) : List (Int × Int) := s.map fun x => ((down l x.1.toNat : Int), (up l x.2.toNat : Int))
def inS (s : List (Int × Int)) (i : Nat) : Bool := s.any fun x => decide (x.1 ≤ i ∧ (i : Int) < x.2)
def hideB (c : UInt8) : UInt8 := if c = 32 ∨ c = 10 then c else 35
/-- The bytes with those in spans as signs. -/
def coverL (s : List (Int × Int)) (l : List UInt8) : List UInt8 := l.mapIdx fun i c => if inS s i then hideB c else c
def redactL (l : List UInt8) (s : List (Int × Int)) : List UInt8 := coverL (pointsL l s) l

theorem coverL_length (s : List (Int × Int)) (l : List UInt8) : (coverL s l).length = l.length := by simp [coverL]
theorem coverL_nil (l : List UInt8) : coverL [] l = l := by
  apply List.ext_getElem?
  intro i
  simp [coverL, inS]
theorem hideB_hideB (c : UInt8) : hideB (hideB c) = hideB c := by
  unfold hideB
  split <;> simp_all

theorem coverL_get (s : List (Int × Int)) (l : List UInt8) (j : Nat) (h : j < l.length) : (coverL s l).getD j 0 = if inS s j then hideB (l.getD j 0) else l.getD j 0 := by
  rw [List.getD_eq_getElem?_getD]
  simp [coverL, h]
theorem inS_append (s t : List (Int × Int)) (j : Nat) : inS (s ++ t) j = (inS s j || inS t j) := by simp [inS]
theorem inS_one (a b j : Nat) : inS [((a : Int), (b : Int))] j = decide (a ≤ j ∧ j < b) := by simp [inS]
theorem hide_or (c : UInt8) (b : Bool) : hideB (if b then hideB c else c) = hideB c := by
  cases b
  · rfl
  · exact hideB_hideB c
theorem ext_getD {l m : List UInt8} (h : l.length = m.length) (hh : ∀ j, j < l.length → l.getD j 0 = m.getD j 0) : l = m := by
  apply List.ext_getElem h
  intro j h1 h2
  have := hh j h1
  simpa [h1, h2] using this
theorem cover_start (s : List (Int × Int)) (l : List UInt8) (f : Nat) : coverL (s ++ [((f : Int), (f : Int))]) l = coverL s l := by
  apply ext_getD (by simp [coverL_length])
  intro j hj
  have hj' : j < l.length := by simpa [coverL_length] using hj
  rw [coverL_get _ _ _ hj', coverL_get _ _ _ hj', inS_append, inS_one]
  have : decide (f ≤ j ∧ j < f) = false := by simp
  rw [this, Bool.or_false]
theorem cover_step (s : List (Int × Int)) (l : List UInt8) (f i : Nat) (hf : f ≤ i) (hi : i < l.length) :
    coverL (s ++ [((f : Int), ((i + 1 : Nat) : Int))]) l = (coverL (s ++ [((f : Int), (i : Int))]) l).set i (hideB ((coverL (s ++ [((f : Int), (i : Int))]) l).getD i 0)) := by
  apply ext_getD (by simp [coverL_length])
  intro j hj
  have hj' : j < l.length := by simpa [coverL_length] using hj
  by_cases hji : j = i
  · subst hji
    rw [coverL_get _ _ _ hj', inS_append, inS_one, coverL_get _ _ _ hj', hide_or]
    have h1 : decide (f ≤ j ∧ j < j + 1) = true := by simp; omega
    rw [h1, Bool.or_true]
    simp [coverL_length, hj']
  · have h2 : (((coverL (s ++ [((f : Int), (i : Int))]) l).set i (hideB ((coverL (s ++ [((f : Int), (i : Int))]) l).getD i 0))).getD j 0) = (coverL (s ++ [((f : Int), (i : Int))]) l).getD j 0 := by
      rw [List.getD_eq_getElem?_getD, List.getElem?_set_ne (by omega), ← List.getD_eq_getElem?_getD]
    rw [h2, coverL_get _ _ _ hj', coverL_get _ _ _ hj', inS_append, inS_append, inS_one, inS_one]
    have h3 : decide (f ≤ j ∧ j < i + 1) = decide (f ≤ j ∧ j < i) := by
      apply decide_eq_decide.2; omega
    rw [h3]

end Go.Proofs.YtbipkkebkddegaaGreatDoor
