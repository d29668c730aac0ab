
/-
  Letters, small letters and the words of a string, in plain words.
-/
import Derived.Lib.Hide
namespace Go.Proofs.YtfijplllfdmcoaaGreatDoor


/-- A byte belongs to words. -/
def letB (c : Int) : Bool := decide ((97 ≤ c ∧ c ≤ 122) ∨ (65 ≤ c ∧ c ≤ 90) ∨ (48 ≤ c ∧ c ≤ 57) ∨ 128 ≤ c)
def lowB (c : UInt8) : UInt8 := if 65 ≤ c.toNat ∧ c.toNat ≤ 90 then c + 32 else c
/-- Small letters up to place k. -/
def lowTo (L : List UInt8) (k : Nat) : List UInt8 := (L.take k).map lowB ++ L.drop k
theorem lowTo_length (L : List UInt8) (k : Nat) : (lowTo L k).length = L.length := by simp [lowTo]; omega
theorem lowTo_zero (L : List UInt8) : lowTo L 0 = L := by simp [lowTo]
theorem lowTo_all (L : List UInt8) (k : Nat) (h : L.length ≤ k) : lowTo L k = L.map lowB := by simp [lowTo, List.take_of_length_le h, List.drop_of_length_le h]
theorem lowTo_at (L : List UInt8) (k : Nat) (h : k < L.length) : (lowTo L k).getD k 0 = L.getD k 0 := by
  have e : ((L.take k).map lowB).length = k := by simp; omega
  rw [List.getD_eq_getElem?_getD, lowTo, List.getElem?_append_right (by omega), e]
  simp [List.getD_eq_getElem?_getD]
theorem lowTo_set (L : List UInt8) (k : Nat) (h : k < L.length) : (lowTo L k).set k (lowB (L.getD k 0)) = lowTo L (k + 1) := by
  have e : ((L.take k).map lowB).length = k := by simp; omega
  unfold lowTo
  rw [List.set_append_right _ _ (by omega), e, List.drop_eq_getElem_cons h, Nat.sub_self, List.set_cons_zero, List.take_succ_eq_append_getElem h, List.map_append, List.append_assoc]
  simp [h]
theorem lowTo_same (L : List UInt8) (k : Nat) (h : k < L.length) (hs : lowB (L.getD k 0) = L.getD k 0) : lowTo L k = lowTo L (k + 1) := by
  rw [← lowTo_set L k h, hs, ← lowTo_at L k h]
  refine List.ext_getElem? (fun j => ?_)
  by_cases hj : k = j
  · subst hj
    have : k < (lowTo L k).length := by rw [lowTo_length]; exact h
    simp [this]
  · rw [List.getElem?_set_ne hj]
theorem lowB_up (c : UInt8) (h1 : 65 ≤ c.toNat) (h2 : c.toNat ≤ 90) : ((lowB c).toNat : Int) = (c.toNat : Int) + 32 := by
  unfold lowB; rw [if_pos ⟨h1, h2⟩]
  rw [UInt8.toNat_add]
  show (((c.toNat + 32) % 256 : Nat) : Int) = _
  omega
theorem lowB_same (c : UInt8) (h : ¬ (65 ≤ c.toNat ∧ c.toNat ≤ 90)) : lowB c = c := by unfold lowB; rw [if_neg h]

def letAt (L : List UInt8) (i : Nat) : Bool := decide (i < L.length) && letB ((L.getD i 0).toNat : Int)
theorem letAt_lt {L : List UInt8} {i : Nat} (h : letAt L i = true) : i < L.length := by
  simp [letAt] at h; exact h.1


def scanStep (b : Bool) (i : Nat) : Option Nat × List (Nat × Nat) → Option Nat × List (Nat × Nat)
  | (none, out) => if b then (some i, out) else (none, out)
  | (some f, out) => if b then (some f, out) else (none, out ++ [(f, i)])
/-- The words that end before place k, and where a word began that has not ended. -/
def scan (L : List UInt8) : Nat → Option Nat × List (Nat × Nat)
  | 0 => (none, [])
  | k + 1 => scanStep (letAt L k) k (scan L k)
def fromI : Option Nat → Int
  | none => -1
  | some f => f
theorem scan_length (L : List UInt8) : ∀ k, (scan L k).2.length ≤ k
  | 0 => Nat.le_refl _
  | k + 1 => by
    have := scan_length L k
    unfold scan
    generalize scan L k = x at *
    obtain ⟨o, out⟩ := x
    simp only at this
    cases o <;> cases letAt L k <;> simp [scanStep] <;> omega
/-- From begin to end. -/
def cutL (L : List UInt8) (f t : Nat) : List UInt8 := (L.drop f).take (t - f)
def lowL (L : List UInt8) : List UInt8 := L.map lowB
def wordsTo (L : List UInt8) (k : Nat) : List (List UInt8) := (scan L k).2.map fun x => lowL (cutL L x.1 x.2)
def wordsL (L : List UInt8) : List (List UInt8) := wordsTo L (L.length + 1)

/-- All bytes from f to t are letters. -/
def AllLet (L : List UInt8) (f t : Nat) : Prop := ∀ i, f ≤ i → i < t → letAt L i = true
/-- A word: letters alone, none right before it, none right behind it. -/
def IsWord (L : List UInt8) (f t : Nat) : Prop := f < t ∧ AllLet L f t ∧ (f = 0 ∨ letAt L (f - 1) = false) ∧ letAt L t = false

theorem AllLet.more {L : List UInt8} {f t : Nat} (h : AllLet L f t) (ht : letAt L t = true) : AllLet L f (t + 1) := by
  intro i h1 h2
  rcases Nat.lt_or_ge i t with h3 | h3
  · exact h i h1 h3
  · obtain rfl : i = t := by omega
    exact ht

theorem scan_ok (L : List UInt8) : ∀ k, (match (scan L k).1 with
    | none => k = 0 ∨ letAt L (k - 1) = false
    | some f => f < k ∧ AllLet L f k ∧ (f = 0 ∨ letAt L (f - 1) = false)) ∧ (∀ f t, (f, t) ∈ (scan L k).2 ↔ IsWord L f t ∧ t < k)
  | 0 => ⟨.inl rfl, fun f t => by simp [scan]⟩
  | k + 1 => by
    have ih := scan_ok L k
    unfold scan
    generalize scan L k = x at *
    obtain ⟨o, out⟩ := x
    obtain ⟨h1, h2⟩ := ih
    simp only at h1 h2
    have hnew : ∀ f t, IsWord L f t → t < k + 1 → ¬ t < k → t = k := fun f t _ _ _ => by omega
    cases o with
    | none =>
      simp only at h1
      cases hb : letAt L k
      · simp only [scanStep, Bool.false_eq_true, if_false]
        refine ⟨.inr hb, fun f t => (h2 f t).trans ⟨fun ⟨a, b⟩ => ⟨a, by omega⟩, fun ⟨a, b⟩ => ⟨a, ?_⟩⟩⟩
        rcases Nat.lt_or_ge t k with h | h
        · exact h
        · obtain rfl : t = k := by omega
          obtain ⟨c1, c2, c3, c4⟩ := a
          rcases h1 with h1 | h1
          · omega
          · rw [c2 (t - 1) (by omega) (by omega)] at h1; cases h1
      · simp only [scanStep, if_true]
        refine ⟨⟨by omega, fun i a b => by obtain rfl : i = k := by omega
                                           exact hb, h1⟩, fun f t => (h2 f t).trans ⟨fun ⟨a, b⟩ => ⟨a, by omega⟩, fun ⟨a, b⟩ => ⟨a, ?_⟩⟩⟩
        rcases Nat.lt_or_ge t k with h | h
        · exact h
        · obtain rfl : t = k := by omega
          obtain ⟨c1, c2, c3, c4⟩ := a
          rw [hb] at c4; cases c4
    | some g =>
      simp only at h1
      obtain ⟨a1, a2, a3⟩ := h1
      cases hb : letAt L k
      · simp only [scanStep, Bool.false_eq_true, if_false]
        refine ⟨.inr hb, fun f t => ?_⟩
        rw [List.mem_append, h2, List.mem_singleton]
        constructor
        · rintro (⟨a, b⟩ | h)
          · exact ⟨a, by omega⟩
          · injection h with e1 e2
            subst e1 e2
            exact ⟨⟨a1, a2, a3, hb⟩, by omega⟩
        · rintro ⟨a, b⟩
          rcases Nat.lt_or_ge t k with h | h
          · exact .inl ⟨a, h⟩
          · obtain rfl : t = k := by omega
            right
            obtain ⟨c1, c2, c3, c4⟩ := a
            have : f = g := by
              rcases Nat.lt_trichotomy f g with h | h | h
              · rcases a3 with a3 | a3
                · omega
                · rw [c2 (g - 1) (by omega) (by omega)] at a3; cases a3
              · exact h
              · rcases c3 with c3 | c3
                · omega
                · rw [a2 (f - 1) (by omega) (by omega)] at c3; cases c3
            rw [this]
      · simp only [scanStep, if_true]
        refine ⟨⟨by omega, a2.more hb, a3⟩, fun f t => (h2 f t).trans ⟨fun ⟨a, b⟩ => ⟨a, by omega⟩, fun ⟨a, b⟩ => ⟨a, ?_⟩⟩⟩
        rcases Nat.lt_or_ge t k with h | h
        · exact h
        · obtain rfl : t = k := by omega
          obtain ⟨c1, c2, c3, c4⟩ := a
          rw [hb] at c4; cases c4

theorem scan_from (L : List UInt8) (k f : Nat) (h : (scan L k).1 = some f) : f < k ∧ k ≤ L.length := by
  have := (scan_ok L k).1
  rw [h] at this
  obtain ⟨a, b, c⟩ := this
  exact ⟨a, by have := letAt_lt (b (k - 1) (by omega) (by omega)); omega⟩


end Go.Proofs.YtfijplllfdmcoaaGreatDoor
