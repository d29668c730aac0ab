
/-
  What a key is, and what is wrong with documents. Plain lists.
-/
import Derived.Lib.SlTrimSet
import Derived.Lib.Hide
namespace Go.Proofs.YthogkcgklakibaaGreatDoor
open Go

def smallU (c : UInt8) : Bool := 97 ≤ c && c ≤ 122
def digU (c : UInt8) : Bool := 48 ≤ c && c ≤ 57
def keyC (c : UInt8) : Bool := smallU c || digU c || c == 45 || c == 95
def keyL (l : List UInt8) : Bool := decide (1 ≤ l.length) && decide (l.length ≤ 40) && l.all keyC && (l.take 1).all smallU
def keySet : List UInt8 := [97, 98, 99, 100, 101, 102, 103, 104, 105, 106, 107, 108, 109, 110, 111, 112, 113, 114, 115, 116, 117, 118, 119, 120, 121, 122, 48, 49, 50, 51, 52, 53, 54, 55, 56, 57, 45, 95]
def smallSet : List UInt8 := [97, 98, 99, 100, 101, 102, 103, 104, 105, 106, 107, 108, 109, 110, 111, 112, 113, 114, 115, 116, 117, 118, 119, 120, 121, 122]
theorem byte_all (p : UInt8 → Bool) (h : (List.range 256).all (fun n => p (UInt8.ofNat n)) = true) (c : UInt8) : p c = true := by
  have h1 := List.all_eq_true.1 h c.toNat (List.mem_range.2 (by have := c.toNat_lt; simpa using this))
  simpa using h1
theorem keySet_has (c : UInt8) : keySet.contains c = keyC c := by
  have := byte_all (fun c => keySet.contains c == keyC c) (by decide +kernel) c
  simpa using this
theorem smallSet_has (c : UInt8) : smallSet.contains c = smallU c := by
  have := byte_all (fun c => smallSet.contains c == smallU c) (by decide +kernel) c
  simpa using this

theorem dropWhile_nil {α : Type} (p : α → Bool) : ∀ l : List α, (l.dropWhile p).isEmpty = l.all p
  | [] => rfl
  | x :: l => by
    simp only [List.dropWhile_cons, List.all_cons]
    cases h : p x
    · simp
    · simp [dropWhile_nil p l]
theorem dropWhile_suffix_all {α : Type} (p : α → Bool) : ∀ l : List α, (l.dropWhile p).all p = l.all p
  | [] => rfl
  | x :: l => by
    simp only [List.dropWhile_cons, List.all_cons]
    cases h : p x
    · simp [h]
    · simp [dropWhile_suffix_all p l]
theorem trimS_nil (l cs : List UInt8) : (Lib.trimS l cs).isEmpty = l.all (cs.contains ·) := by
  unfold Lib.trimS Lib.trimLeftS Lib.trimRightS
  rw [dropWhile_nil, List.all_reverse, dropWhile_suffix_all, List.all_reverse]

section
abbrev Body2 := ByteArray × ByteArray
def faultR : List Body2 → List Body2 → Int
  | _, [] => 0
  | done, b :: r => if keyL b.1.data.toList = false then 5 else if done.any (fun x => decide (x.1 = b.1)) = true then 6 else if 20000 < b.2.size then 2 else faultR (done ++ [b]) r
def totB (l : List Body2) : Nat := (l.map (·.2.size)).sum
def faultL (l : List Body2) : Int := if 300 < l.length then 2 else if faultR [] l ≠ 0 then faultR [] l else if 500000 < totB l then 2 else 0
theorem totB_append (l m : List Body2) : totB (l ++ m) = totB l + totB m := by simp [totB]
theorem totB_take (l : List Body2) (k : Nat) : totB (l.take k) ≤ totB l := by
  have := totB_append (l.take k) (l.drop k)
  rw [List.take_append_drop] at this; omega
theorem totB_le (l : List Body2) (m : Nat) (h : ∀ x ∈ l, x.2.size ≤ m) : totB l ≤ m * l.length := by
  induction l with
  | nil => simp [totB]
  | cons x l ih =>
    have h1 := ih (fun y hy => h y (List.mem_cons_of_mem _ hy))
    have h2 := h x List.mem_cons_self
    simp only [totB, List.map_cons, List.sum_cons, List.length_cons, Nat.mul_add, Nat.mul_one] at *
    omega

/-- Right documents. -/
structure RightB (l : List Body2) : Prop where
  key : ∀ x ∈ l, keyL x.1.data.toList = true
  small : ∀ x ∈ l, x.2.size ≤ 20000
  apart : l.Pairwise (fun x y => x.1 ≠ y.1)
  few : l.length ≤ 300
  total : totB l ≤ 500000
theorem faultR_ok : ∀ (r done : List Body2), faultR done r = 0 → done.Pairwise (fun x y => x.1 ≠ y.1) → (∀ x ∈ r, keyL x.1.data.toList = true ∧ x.2.size ≤ 20000) ∧ (done ++ r).Pairwise (fun x y => x.1 ≠ y.1)
  | [], done, _, hp => ⟨(fun x hx => by cases hx), by simpa using hp⟩
  | b :: r, done, h, hp => by
    rw [faultR] at h
    split at h
    · omega
    · rename_i h1
      split at h
      · omega
      · rename_i h2
        split at h
        · omega
        · rename_i h3
          have hp' : (done ++ [b]).Pairwise (fun x y => x.1 ≠ y.1) := by
            rw [List.pairwise_append]
            refine ⟨hp, List.pairwise_singleton _ _, fun x hx y hy e => ?_⟩
            rw [List.mem_singleton] at hy
            subst hy
            exact h2 (List.any_eq_true.2 ⟨x, hx, by simpa using e⟩)
          obtain ⟨i1, i2⟩ := faultR_ok r (done ++ [b]) h hp'
          refine ⟨fun x hx => ?_, by simpa using i2⟩
          rcases List.mem_cons.1 hx with rfl | hx
          · exact ⟨by simpa using h1, by omega⟩
          · exact i1 x hx
theorem faultL_ok (l : List Body2) (h : faultL l = 0) : RightB l := by
  unfold faultL at h
  split at h
  · omega
  · split at h
    · exact absurd h (by assumption)
    · split at h
      · omega
      · rename_i h1 h2 h3
        obtain ⟨i1, i2⟩ := faultR_ok l [] (by simpa using h2) List.Pairwise.nil
        exact ⟨fun x hx => (i1 x hx).1, fun x hx => (i1 x hx).2, by simpa using i2, by omega, by omega⟩
theorem faultR_at (l : List Body2) (k : Nat) (b : Body2) (hb : l[k]? = some b) : faultR (l.take k) (l.drop k) = if keyL b.1.data.toList = false then 5 else if (l.take k).any (fun x => decide (x.1 = b.1)) = true then 6 else if 20000 < b.2.size then 2 else faultR (l.take (k + 1)) (l.drop (k + 1)) := by
  obtain ⟨hk, rfl⟩ := List.getElem?_eq_some_iff.1 hb
  rw [List.drop_eq_getElem_cons hk, faultR, List.take_succ_eq_append_getElem hk]
end
end Go.Proofs.YthogkcgklakibaaGreatDoor
