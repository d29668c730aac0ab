
/-
  Replacing single bytes by strings, in plain Lean.
-/
import Derived.RowKit
namespace Go.Proofs.YtbipkkebkddegaaGreatDoor
open Go

abbrev RTab := UInt8 → Option (List UInt8)
def replB (tab : RTab) (b : UInt8) : List UInt8 := (tab b).getD [b]
def replL (tab : RTab) (s : List UInt8) : List UInt8 := s.flatMap (replB tab)
theorem replL_nil (tab : RTab) : replL tab [] = [] := rfl
theorem replL_cons (tab : RTab) (b : UInt8) (s : List UInt8) : replL tab (b :: s) = replB tab b ++ replL tab s := rfl
theorem replL_append (tab : RTab) (s t : List UInt8) : replL tab (s ++ t) = replL tab s ++ replL tab t := by simp [replL]
def anyR (tab : RTab) (s : List UInt8) : Bool := s.any (fun b => (tab b).isSome)
theorem replL_same (tab : RTab) : ∀ s : List UInt8, anyR tab s = false → replL tab s = s
  | [], _ => rfl
  | b :: s, h => by
    simp only [anyR, List.any_cons, Bool.or_eq_false_iff] at h
    have hb : tab b = none := by simpa using h.1
    rw [replL_cons, replL_same tab s h.2, replB, hb]
    rfl
/-- How much longer a byte makes the string. -/
def growB (tab : RTab) (b : UInt8) : Int := ((replB tab b).length : Int) - 1
def sizeR (tab : RTab) (s : List UInt8) : Int := s.length + (s.map (growB tab)).sum
theorem sizeR_eq (tab : RTab) : ∀ s : List UInt8, sizeR tab s = (replL tab s).length
  | [] => rfl
  | b :: s => by
    have ih := sizeR_eq tab s
    simp only [sizeR, growB, List.map_cons, List.sum_cons, List.length_cons, replL_cons, List.length_append] at ih ⊢
    omega
theorem growB_none {tab : RTab} {b : UInt8} (h : tab b = none) : growB tab b = 0 := by simp [growB, replB, h]
theorem growB_some {tab : RTab} {b : UInt8} {l : List UInt8} (h : tab b = some l) : growB tab b = (l.length : Int) - 1 := by simp [growB, replB, h]
/-- Counting byte by byte of what is replaced. -/
def countR (tab : RTab) (s : List UInt8) (tl : List UInt8) : Int := (tl.map fun x => (s.count x : Int) * growB tab x).sum
theorem countR_cons (tab : RTab) (b : UInt8) (s : List UInt8) : ∀ tl : List UInt8, tl.Nodup → countR tab (b :: s) tl = countR tab s tl + if b ∈ tl then growB tab b else 0
  | [], _ => by simp [countR]
  | x :: tl, hn => by
    have ih := countR_cons tab b s tl (List.nodup_cons.1 hn).2
    simp only [countR, List.map_cons, List.sum_cons] at ih ⊢
    rw [ih]
    by_cases hx : b = x
    · subst hx
      have : b ∉ tl := (List.nodup_cons.1 hn).1
      simp only [this, if_false, List.mem_cons, true_or, if_true, List.count_cons_self]
      rw [Int.natCast_add, Int.add_mul]
      simp only [Int.cast_ofNat_Int, Int.one_mul]
      omega
    · rw [List.count_cons_of_ne hx]
      by_cases hb : b ∈ tl
      · simp [hb]; omega
      · simp [hb, hx]
theorem countR_all (tab : RTab) (tl : List UInt8) (hn : tl.Nodup) (ht : ∀ b, tab b ≠ none → b ∈ tl) : ∀ s : List UInt8, countR tab s tl = (s.map (growB tab)).sum
  | [] => by
    simp only [countR, List.count_nil, List.map_nil, List.sum_nil]
    have hz : ∀ t : List UInt8, (t.map fun x => ((0 : Nat) : Int) * growB tab x).sum = 0 := by
      intro t
      induction t with
      | nil => rfl
      | cons x t ih => rw [List.map_cons, List.sum_cons, ih]; simp
    exact hz tl
  | b :: s => by
    rw [countR_cons tab b s tl hn, countR_all tab tl hn ht s, List.map_cons, List.sum_cons]
    by_cases hb : b ∈ tl
    · rw [if_pos hb]; omega
    · rw [if_neg hb, growB_none (by
        cases h : tab b with
        | none => rfl
        | some l => exact absurd (ht b (by rw [h]; simp)) hb)]
      omega
theorem anyR_count (tab : RTab) (tl : List UInt8) (ht : ∀ b, tab b ≠ none ↔ b ∈ tl) (s : List UInt8) : anyR tab s = tl.any (fun x => s.count x != 0) := by
  rw [Bool.eq_iff_iff]
  simp only [anyR, List.any_eq_true, bne_iff_ne, ne_eq]
  constructor
  · rintro ⟨b, hb, h⟩
    exact ⟨b, (ht b).1 (by intro e; rw [e] at h; cases h), fun e => (List.count_eq_zero.1 e) hb⟩
  · rintro ⟨x, hx, h⟩
    refine ⟨x, ?_, ?_⟩
    · rcases Nat.eq_zero_or_pos (s.count x) with e | e
      · exact absurd e h
      · exact List.count_pos_iff.1 e
    · have := (ht x).2 hx
      cases h2 : tab x with
      | none => exact absurd h2 this
      | some l => rfl
/-- The table of pairs, the first of two with the same byte being the one that counts. -/
def tabOf : List (UInt8 × List UInt8) → RTab
  | [] => fun _ => none
  | p :: ps => fun b => if b = p.1 then some p.2 else tabOf ps b
theorem tabOf_none {ps : List (UInt8 × List UInt8)} {b : UInt8} (h : ∀ p ∈ ps, p.1 ≠ b) : tabOf ps b = none := by
  induction ps with
  | nil => rfl
  | cons p ps ih =>
    have h1 : ¬ b = p.1 := fun e => h p (by simp) e.symm
    simp only [tabOf, h1, if_false]
    exact ih (fun q hq => h q (by simp [hq]))
theorem tabOf_iff (ps : List (UInt8 × List UInt8)) (b : UInt8) : tabOf ps b ≠ none ↔ b ∈ ps.map (·.1) := by
  induction ps with
  | nil => simp [tabOf]
  | cons p ps ih =>
    by_cases h : b = p.1
    · simp [tabOf, h]
    · simp only [tabOf, h, if_false, List.map_cons, List.mem_cons, false_or]
      exact ih
end Go.Proofs.YtbipkkebkddegaaGreatDoor
