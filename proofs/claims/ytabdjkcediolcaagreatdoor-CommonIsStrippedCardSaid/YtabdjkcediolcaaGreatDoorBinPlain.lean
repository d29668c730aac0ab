
/-
  Halving finds whether a string is a member of a rising list.
-/
import Derived.Test.YtabdjkcediolcaaGreatDoorStrLib
import Derived.Shelf.Spec.SearchS
import Derived.Sort.Walk0
namespace Go.Proofs.YtabdjkcediolcaaGreatDoor
open Go Go.Sort

theorem bsGo_split (less : Nat → Bool) (n : Nat) (mono : ∀ i j, i ≤ j → j < n → less j = true → less i = true) : ∀ (f lo hi : Nat), hi - lo ≤ f → lo ≤ hi → hi ≤ n → (∀ i, i < lo → less i = true) → (∀ i, hi ≤ i → i < n → less i = false) →
    Lib.bsGo less f lo hi ≤ n ∧ (∀ i, i < Lib.bsGo less f lo hi → less i = true) ∧ (∀ i, Lib.bsGo less f lo hi ≤ i → i < n → less i = false)
  | 0, lo, hi, hf, h1, h2, h3, h4 => by
    have e : lo = hi := by omega
    subst e
    exact ⟨h2, h3, h4⟩
  | f + 1, lo, hi, hf, h1, h2, h3, h4 => by
    unfold Lib.bsGo
    by_cases h : lo < hi
    · rw [if_pos h]
      cases hm : less ((lo + hi) / 2) with
      | true =>
        rw [if_pos rfl]
        exact bsGo_split less n mono f _ _ (by omega) (by omega) h2 (fun i hi' => mono i ((lo + hi) / 2) (by omega) (by omega) hm) h4
      | false =>
        rw [if_neg (by decide)]
        refine bsGo_split less n mono f _ _ (by omega) (by omega) (by omega) h3 (fun i hi' hn => ?_)
        cases hl : less i with
        | false => rfl
        | true => rw [mono _ i hi' hn hl] at hm; cases hm
    · rw [if_neg h]
      have e : lo = hi := by omega
      subst e
      exact ⟨h2, h3, h4⟩

theorem bs_found (l : List (List UInt8)) (x : ByteArray) (h : l.Pairwise (· < ·)) (less : Nat → Bool) (hless : ∀ t, less t = Op.bytesLess (bag (l.getD t [])).toList x.toList) :
    decide (Lib.bsGo less l.length 0 l.length < l.length ∧ bag (l.getD (Lib.bsGo less l.length 0 l.length) []) = x) = l.contains x.data.toList := by
  have hl : ∀ t, less t = decide (l.getD t [] < x.data.toList) := fun t => by rw [hless, bytesLess_eq, Lib.toList_data, Lib.toList_data, bag_data]
  have hp : ∀ i j, (hi : i < j) → (hj : j < l.length) → l.getD i [] < l.getD j [] := fun i j hi hj => by
    have := (List.pairwise_iff_getElem.1 h) i j (by omega) hj hi
    simpa [List.getD_eq_getElem?_getD, List.getElem?_eq_getElem (show i < l.length by omega), List.getElem?_eq_getElem hj] using this
  obtain ⟨h1, h2, h3⟩ := bsGo_split less l.length (fun i j hij hj hl' => by
    rcases Nat.eq_or_lt_of_le hij with e | e
    · rw [e]; exact hl'
    · rw [hl] at hl' ⊢
      exact decide_eq_true (List.lt_trans (hp i j e hj) (of_decide_eq_true hl'))) l.length 0 l.length (by omega) (by omega) (Nat.le_refl _) (fun i hi => by omega) (fun i h1 h2 => by omega)
  generalize Lib.bsGo less l.length 0 l.length = r at *
  by_cases hm : x.data.toList ∈ l
  · have hc : l.contains x.data.toList = true := by simpa [List.contains_eq_mem] using hm
    rw [hc]
    obtain ⟨k, hk, he⟩ := List.getElem_of_mem hm
    have hgk : l.getD k [] = x.data.toList := by simp [hk, he]
    have hk0 : less k = false := by rw [hl, hgk]; simp
    have hrk : r = k := by
      rcases Nat.lt_trichotomy r k with hh | hh | hh
      · have a := h3 r (Nat.le_refl _) (by omega)
        rw [hl, ← hgk] at a
        have b := hp r k hh hk
        exact absurd b (of_decide_eq_false a)
      · exact hh
      · have a := h2 k hh
        rw [hk0] at a
        cases a
    subst hrk
    exact decide_eq_true ⟨hk, by rw [hgk]; exact bag_of x⟩
  · have hc : l.contains x.data.toList = false := by simpa [List.contains_eq_mem] using hm
    rw [hc]
    refine decide_eq_false ?_
    rintro ⟨a, b⟩
    apply hm
    rw [← b, bag_data]
    simp [List.getD_eq_getElem?_getD, List.getElem?_eq_getElem a]
end Go.Proofs.YtabdjkcediolcaaGreatDoor
