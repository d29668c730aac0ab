
/-
  Shingles as numbers: in the order in which they come. Plain lists, and maps that read as them.
-/
import Derived.Test.YtabdjkcediolcaaGreatDoorNear
import Derived.Test.YtabdjkcediolcaaGreatDoorLikeI
import Derived.Test.YtabdjkcediolcaaGreatDoorCommon
namespace Go.Proofs.YtabdjkcediolcaaGreatDoor
open Go Go.Maps

theorem mem_compact {zs : List Str} {x : Str} (h : x ∈ Lib.compact zs) : x ∈ zs := by
  unfold Lib.compact Lib.compactUpTo at h
  obtain ⟨i, hi, rfl⟩ := List.mem_map.1 h
  have hi' := List.mem_range.1 (List.mem_filter.1 hi).1
  have e : zs.toArray[i]! = zs[i] := by simp [hi']
  rw [e]
  exact List.getElem_mem _
theorem shin_small (L : Str) (k : Nat) (hL : L.length ≤ 20000) (hk : k ≤ 10) : ∀ s ∈ shinL L k, s.length ≤ 1000000 := by
  intro s hs
  unfold shinL at hs
  split at hs
  · cases hs
  · have h1 := mem_compact hs
    have h2 := (List.mergeSort_perm _ _).mem_iff.1 h1
    obtain ⟨i, _, rfl⟩ := List.mem_map.1 h2
    exact win_small L k hL hk i
def numStep (st : List Str × List Int) (s : Str) : List Str × List Int :=
  if s ∈ st.1 then (st.1, st.2 ++ [((st.1.idxOf s : Nat) : Int)]) else (st.1 ++ [s], st.2 ++ [((st.1.length : Nat) : Int)])
def numDoc (seen : List Str) (ss : List Str) : List Str × List Int := ss.foldl numStep (seen, [])
theorem numDoc_snoc (seen ss : List Str) (s : Str) : numDoc seen (ss ++ [s]) = numStep (numDoc seen ss) s := by simp [numDoc]
theorem numDoc_len (seen : List Str) : ∀ ss : List Str, (numDoc seen ss).2.length = ss.length := by
  have h : ∀ (ss : List Str) (st : List Str × List Int), (ss.foldl numStep st).2.length = st.2.length + ss.length := by
    intro ss
    induction ss with
    | nil => intro st; simp
    | cons s ss ih =>
      intro st
      rw [List.foldl_cons, ih]
      unfold numStep
      split <;> simp <;> omega
  intro ss
  have := h ss (seen, [])
  simpa [numDoc] using this
def sortZ (l : List Int) : List Int := l.mergeSort fun x y => decide (x ≤ y)
theorem sortZ_length (l : List Int) : (sortZ l).length = l.length := by simp [sortZ]
def accStep (k : Nat) (st : List Str × List (Str × List Int)) (x : Body2) : List Str × List (Str × List Int) :=
  ((numDoc st.1 (shinL x.2.data.toList k)).1, st.2 ++ [(x.1.data.toList, sortZ (numDoc st.1 (shinL x.2.data.toList k)).2)])
def numAcc (k : Nat) (l : List Body2) : List Str × List (Str × List Int) := l.foldl (accStep k) ([], [])
theorem numAcc_snoc (k : Nat) (l : List Body2) (x : Body2) : numAcc k (l ++ [x]) = accStep k (numAcc k l) x := by simp [numAcc]
def idsL (l : List Body2) : List Str := l.map fun x => x.1.data.toList
theorem numAcc_ids (k : Nat) (l : List Body2) : (numAcc k l).2.map (·.1) = idsL l := by
  have h : ∀ (l : List Body2) (st : List Str × List (Str × List Int)), (l.foldl (accStep k) st).2.map (·.1) = st.2.map (·.1) ++ idsL l := by
    intro l
    induction l with
    | nil => intro st; simp [idsL]
    | cons x l ih => intro st; rw [List.foldl_cons, ih]; simp [accStep, idsL]
  have := h l ([], [])
  simpa [numAcc] using this
def lookN (out : List (Str × List Int)) (id : Str) : List Int := ((out.find? fun p => decide (p.1 = id)).map (·.2)).getD []
theorem lookN_snoc {out : List (Str × List Int)} {i : Str} {n : List Int} (h : i ∉ out.map (·.1)) (id : Str) : lookN (out ++ [(i, n)]) id = if id = i then n else lookN out id := by
  unfold lookN
  rw [List.find?_append]
  by_cases hid : id = i
  · subst hid
    have : out.find? (fun p => decide (p.1 = id)) = none := by
      rw [List.find?_eq_none]
      intro p hp e
      exact h (List.mem_map.2 ⟨p, hp, by simpa using e⟩)
    simp [this]
  · have hne : ¬ i = id := fun e => hid e.symm
    simp [hid, hne]
theorem lookN_len {k : Nat} {l : List Body2} (h : ∀ x ∈ l, x.2.size ≤ 20000) (id : Str) : (lookN (numAcc k l).2 id).length ≤ 100000 := by
  have hm : ∀ (l : List Body2) (st : List Str × List (Str × List Int)), (∀ x ∈ l, x.2.size ≤ 20000) → (∀ p ∈ st.2, p.2.length ≤ 100000) → ∀ p ∈ (l.foldl (accStep k) st).2, p.2.length ≤ 100000 := by
    intro l
    induction l with
    | nil => intro st _ h; exact h
    | cons x l ih =>
      intro st hx hs
      rw [List.foldl_cons]
      refine ih _ (fun y hy => hx y (List.mem_cons_of_mem _ hy)) ?_
      intro p hp
      rcases List.mem_append.1 hp with hp | hp
      · exact hs p hp
      · simp only [List.mem_singleton] at hp
        subst hp
        have h1 := hx x (by simp)
        have h2 : x.2.data.toList.length = x.2.size := by simp
        simp only [sortZ_length, numDoc_len]
        exact shin_len _ _ (by omega)
  unfold lookN
  cases hf : (numAcc k l).2.find? (fun p => decide (p.1 = id)) with
  | none => simp
  | some p => exact hm l ([], []) h (fun p hp => by cases hp) p (List.mem_of_find?_eq_some hf)

/-- The numbers of shingles. -/
structure NumD (D : DataW Unit) (seen : List Str) : Prop where
  isMap : IsMap D
  at_ : ∀ s ∈ seen, D.atKey (.string s) (.lit (.int .i64 0)) = .lit (.int .i64 ((seen.idxOf s : Nat) : Int))
  has_ : ∀ s, has D (.string s) = decide (s ∈ seen)
  size_ : Maps.size D = seen.length
theorem NumD.start : NumD (.map []) [] := ⟨isMap_empty, (fun s h => by cases h), fun _ => rfl, rfl⟩
theorem NumD.more {D : DataW Unit} {seen : List Str} (h : NumD D seen) (ht : Tidy D) {s : Str} (hs : s ∉ seen) : NumD (D.put (.string s) (.lit (.int .i64 ((seen.length : Nat) : Int)))) (seen ++ [s]) := by
  refine ⟨h.isMap.put _ _, fun t ht' => ?_, fun t => ?_, ?_⟩
  · by_cases e : t = s
    · subst e
      rw [atKey_put_same h.isMap (str_key' _), List.idxOf_append, if_neg hs]
      simp
    · have hm : t ∈ seen := by
        rcases List.mem_append.1 ht' with h1 | h1
        · exact h1
        · simp at h1; exact absurd h1 e
      rw [atKey_put_other (str_ne e), h.at_ t hm, List.idxOf_append, if_pos hm]
  · by_cases e : t = s
    · subst e
      rw [has_put_same h.isMap (str_key' _)]
      simp
    · rw [has_put_other (str_ne e), h.has_]
      simp [e]
  · rw [size_put ht, h.has_, decide_eq_false hs, h.size_]
    simp
end Go.Proofs.YtabdjkcediolcaaGreatDoor
