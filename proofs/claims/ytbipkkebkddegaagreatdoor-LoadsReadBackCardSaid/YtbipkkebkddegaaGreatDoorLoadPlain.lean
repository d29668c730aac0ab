
/-
  The text of rows, and how it is read. Plain lists.
-/
import Derived.Test.YtbipkkebkddegaaGreatDoorTokPlain
import Derived.Lib.Hide
namespace Go.Proofs.YtbipkkebkddegaaGreatDoor

/-- What stands for a byte of a cell. -/
def sgn (b : UInt8) : List UInt8 := if b = 94 then [94, 94] else if b = 126 then [126, 126] else if b = 10 then [126, 110] else [b]
def signL (s : List UInt8) : List UInt8 := s.flatMap sgn
theorem signL_cons (b : UInt8) (s : List UInt8) : signL (b :: s) = sgn b ++ signL s := rfl
def cellT (s : List UInt8) : List UInt8 := 94 :: (signL s ++ [94])
def rowT : List (List UInt8) → List UInt8
  | [] => []
  | [s] => cellT s
  | s :: t :: r => cellT s ++ 124 :: rowT (t :: r)
/-- What stands behind the first sign of a cell: the cell, and the rest. -/
def cellGo : List UInt8 → Option (List UInt8 × List UInt8)
  | [] => none
  | c :: r =>
    if c = 94 then (match r with
      | d :: r' => if d = 94 then (cellGo r').map fun p => (94 :: p.1, p.2) else some ([], d :: r')
      | [] => some ([], []))
    else if c = 126 then (match r with
      | d :: r' => if d = 110 then (cellGo r').map fun p => (10 :: p.1, p.2) else if d = 126 then (cellGo r').map fun p => (126 :: p.1, p.2) else none
      | [] => none)
    else (cellGo r).map fun p => (c :: p.1, p.2)
termination_by l => l.length
def cellL : List UInt8 → Option (List UInt8 × List UInt8)
  | [] => none
  | c :: r => if c = 94 then cellGo r else none
theorem cellGo_sign : ∀ (s r : List UInt8), r.head? ≠ some 94 → cellGo (signL s ++ 94 :: r) = some (s, r)
  | [], r, h => by
    cases r with
    | nil => simp [signL, cellGo]
    | cons d r =>
      have hd : d ≠ 94 := by simpa using h
      simp [signL, cellGo, hd]
  | b :: s, r, h => by
    have ih := cellGo_sign s r h
    rw [signL_cons]
    by_cases h1 : b = 94
    · subst h1; simp [sgn, cellGo, ih]
    · by_cases h2 : b = 126
      · subst h2; simp [sgn, cellGo, ih]
      · by_cases h3 : b = 10
        · subst h3; simp [sgn, cellGo, ih]
        · have e : sgn b = [b] := by unfold sgn; rw [if_neg h1, if_neg h2, if_neg h3]
          rw [e, List.singleton_append]
          rw [cellGo.eq_def]
          simp [h1, h2, ih]
theorem cellL_cell (s r : List UInt8) (h : r.head? ≠ some 94) : cellL (cellT s ++ r) = some (s, r) := by
  have e : cellT s ++ r = 94 :: (signL s ++ 94 :: r) := by simp [cellT]
  rw [e]
  simp only [cellL, if_true]
  exact cellGo_sign s r h
/-- The cells of a line. -/
def lineGo : Nat → List UInt8 → Option (List (List UInt8))
  | 0, _ => none
  | f + 1, s => match cellL s with
    | none => none
    | some (c, []) => some [c]
    | some (c, d :: r) => if d = 124 then (lineGo f r).map fun l => c :: l else none
theorem lineGo_row : ∀ (f : Nat) (r : List (List UInt8)), r ≠ [] → r.length ≤ f → lineGo f (rowT r) = some r
  | 0, r, h, hf => absurd (List.eq_nil_of_length_eq_zero (by omega)) h
  | f + 1, [], h, _ => absurd rfl h
  | f + 1, [s], _, _ => by
    have h := cellL_cell s [] (by simp)
    rw [List.append_nil] at h
    simp only [rowT, lineGo, h]
  | f + 1, s :: t :: r, _, hf => by
    have ih := lineGo_row f (t :: r) (by simp) (by simp at hf ⊢; omega)
    have h := cellL_cell s (124 :: rowT (t :: r)) (by simp)
    simp only [rowT, lineGo, h, if_true, ih, Option.map_some]
theorem sgn_nofeed (b : UInt8) : (10 : UInt8) ∉ sgn b := by
  unfold sgn
  split
  · decide
  · split
    · decide
    · split
      · decide
      · intro h
        rw [List.mem_singleton] at h
        rename_i h3
        exact h3 h.symm
theorem signL_nofeed (s : List UInt8) : (10 : UInt8) ∉ signL s := by
  intro h
  obtain ⟨b, _, hb⟩ := List.mem_flatMap.1 h
  exact sgn_nofeed b hb
theorem rowT_nofeed : ∀ r : List (List UInt8), (10 : UInt8) ∉ rowT r
  | [] => by simp [rowT]
  | [s] => by
    have := signL_nofeed s
    simp [rowT, cellT, this]
  | s :: t :: r => by
    have h1 := signL_nofeed s
    have h2 := rowT_nofeed (t :: r)
    simp [rowT, cellT, h1, h2]
theorem rowT_ne (r : List (List UInt8)) (h : r ≠ []) : rowT r ≠ [] := by
  cases r with
  | nil => exact absurd rfl h
  | cons s r => cases r <;> simp [rowT, cellT]
/-- The text of rows. -/
def loadT (rows : List (List (List UInt8))) : List UInt8 := rows.flatMap fun r => rowT r ++ [10]
theorem loadT_cons (r : List (List UInt8)) (rows : List (List (List UInt8))) : loadT (r :: rows) = rowT r ++ ([10] ++ loadT rows) := by simp [loadT]
/-- The lines of the text are those of the rows. -/
theorem loadT_split : ∀ rows : List (List (List UInt8)), splitC 10 (loadT rows) = rows.map rowT ++ [[]]
  | [] => by simp [loadT, splitC]
  | r :: rows => by
    have ih := loadT_split rows
    rw [loadT_cons]
    have h1 : splitC 10 ((10 : UInt8) :: loadT rows) = [] :: splitC 10 (loadT rows) := splitC_eq 10 _
    have h2 := splitC_word h1 (rowT r) (rowT_nofeed r)
    rw [List.singleton_append, h2, ih]
    simp
theorem loadT_lines (rows : List (List (List UInt8))) (h : rows ≠ []) : splitC 10 (loadT rows).dropLast = rows.map rowT := by
  obtain ⟨init, last, rfl⟩ : ∃ i l, rows = i ++ [l] := ⟨rows.dropLast, rows.getLast h, (List.dropLast_concat_getLast h).symm⟩
  have e : loadT (init ++ [last]) = loadT init ++ rowT last ++ [10] := by simp [loadT]
  rw [e, List.dropLast_concat]
  have key : ∀ init : List (List (List UInt8)), splitC 10 (loadT init ++ rowT last) = init.map rowT ++ [rowT last] := by
    intro init
    induction init with
    | nil =>
      have h0 : splitC 10 ([] : List UInt8) = [[]] := rfl
      have := splitC_word h0 (rowT last) (rowT_nofeed last)
      simpa [loadT] using this
    | cons r rows ih =>
      rw [loadT_cons]
      have h1 : splitC 10 ((10 : UInt8) :: (loadT rows ++ rowT last)) = [] :: splitC 10 (loadT rows ++ rowT last) := splitC_eq 10 _
      have h2 := splitC_word h1 (rowT r) (rowT_nofeed r)
      have e2 : rowT r ++ ([10] ++ loadT rows) ++ rowT last = rowT r ++ ((10 : UInt8) :: (loadT rows ++ rowT last)) := by simp
      rw [e2, h2, ih]
      simp
  rw [key]; simp
end Go.Proofs.YtbipkkebkddegaaGreatDoor
