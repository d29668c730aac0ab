
/-
  How changes are made one by one. Plain lists.
-/
import Derived.Test.YthmfoihohminmaaDoorLcsPlain
import Derived.Test.YthmfoihohminmaaDoorTokPlain
namespace Go.Proofs.YthmfoihohminmaaDoor

section
variable {α : Type}
def stStep (x : List α) (s : List α × Nat) (c : Chg α) : List α × Nat := (s.1 ++ seg x s.2 c.1 ++ c.2.2, c.1 + c.2.1.length)
/-- What stands, and where, after some changes. -/
def stOf (x : List α) (cs : List (Chg α)) : List α × Nat := cs.foldl (stStep x) ([], 0)
theorem stOf_snoc (x : List α) (cs : List (Chg α)) (c : Chg α) : stOf x (cs ++ [c]) = stStep x (stOf x cs) c := by simp [stOf]
theorem st_pat (x : List α) : ∀ (cs : List (Chg α)) (s : List α × Nat), (cs.foldl (stStep x) s).1 ++ x.drop (cs.foldl (stStep x) s).2 = s.1 ++ pat x s.2 cs
  | [], s => rfl
  | c :: cs, s => by
    rw [List.foldl_cons, st_pat x cs]
    simp [stStep, pat]
theorem stOf_pat (x : List α) (cs : List (Chg α)) : (stOf x cs).1 ++ x.drop (stOf x cs).2 = pat x 0 cs := by
  rw [stOf, st_pat]; simp
theorem okc_at (x : List α) : ∀ (cs : List (Chg α)) (lo : Nat) (s : List α × Nat) (k : Nat) (c : Chg α), okc x lo cs → s.2 ≤ lo → cs[k]? = some c →
    ((cs.take k).foldl (stStep x) s).2 ≤ c.1 ∧ (0 < k → ((cs.take k).foldl (stStep x) s).2 < c.1) ∧ c.1 + c.2.1.length ≤ x.length ∧ seg x c.1 (c.1 + c.2.1.length) = c.2.1 ∧ ¬ (c.2.1 = [] ∧ c.2.2 = [])
  | [], _, _, k, c, _, _, h => by simp at h
  | d :: cs, lo, s, 0, c, ho, hs, h => by
    simp at h; subst h
    exact ⟨by have := ho.1; simp; omega, fun h => by omega, ho.2.1, ho.2.2.1, ho.2.2.2.1⟩
  | d :: cs, lo, s, k + 1, c, ho, hs, h => by
    have ih := okc_at x cs (d.1 + d.2.1.length + 1) (stStep x s d) k c ho.2.2.2.2 (by simp [stStep]) (by simpa using h)
    rw [List.take_succ_cons, List.foldl_cons]
    refine ⟨ih.1, fun _ => ?_, ih.2.2⟩
    cases k with
    | zero =>
      cases cs with
      | nil => simp at h
      | cons e cs =>
        simp at h; subst h
        have := ho.2.2.2.2.1
        simp [stStep]; omega
    | succ k => exact ih.2.1 (by omega)
theorem okc_mem {x : List α} : ∀ {cs : List (Chg α)} {lo : Nat}, okc x lo cs → ∀ c ∈ cs, ∀ t ∈ c.2.1, t ∈ x
  | [], _, _, c, hc => by simp at hc
  | d :: cs, lo, h, c, hc => by
    rcases List.mem_cons.1 hc with rfl | hc
    · intro t ht
      rw [← h.2.2.1] at ht
      exact List.mem_of_mem_drop (List.mem_of_mem_take ht)
    · exact okc_mem h.2.2.2.2 c hc
theorem chgs_mem (x y : List α) : ∀ (l : List (Nat × Nat)) (i j : Nat), ∀ c ∈ chgs x y i j l, (∀ t ∈ c.2.1, t ∈ x) ∧ (∀ t ∈ c.2.2, t ∈ y)
  | [], _, _, c, hc => by simp [chgs] at hc
  | p :: l, i, j, c, hc => by
    simp only [chgs, List.mem_append] at hc
    rcases hc with hc | hc
    · split at hc
      · simp at hc; subst hc
        exact ⟨fun t ht => List.mem_of_mem_drop (List.mem_of_mem_take ht), fun t ht => List.mem_of_mem_drop (List.mem_of_mem_take ht)⟩
      · simp at hc
    · exact chgs_mem x y l _ _ c hc
theorem st_grow (x : List α) : ∀ (cs : List (Chg α)) (s : List α × Nat), s.1.length ≤ ((cs.foldl (stStep x) s).1).length
  | [], _ => Nat.le_refl _
  | c :: cs, s => by
    have := st_grow x cs (stStep x s c)
    simp only [List.foldl_cons]
    simp only [stStep, List.length_append] at *
    omega
theorem stOf_le (x : List α) (cs : List (Chg α)) (k : Nat) : ((stOf x (cs.take k)).1).length ≤ (pat x 0 cs).length := by
  have h := st_grow x (cs.drop k) (stOf x (cs.take k))
  rw [stOf, ← List.foldl_append, List.take_append_drop] at h
  have h2 := congrArg List.length (stOf_pat x cs)
  rw [List.length_append] at h2
  unfold stOf at *
  omega
end

end Go.Proofs.YthmfoihohminmaaDoor
