
/-
  The texts of a body's lines bear no line feed.
-/
import Derived.Test.YtmaimojpjepmjaaGreatDoorParasFn
namespace Go.Proofs.YtmaimojpjepmjaaGreatDoor
open Go.RowKit

theorem trimPrefix_sub (s p : List UInt8) : ∀ b ∈ Lib.trimPrefix s p, b ∈ s := by
  intro b hb
  unfold Lib.trimPrefix at hb
  split at hb
  · exact List.mem_of_mem_drop hb
  · exact hb
theorem strip_sub : ∀ (n : Nat) (s : List UInt8), s.length ≤ n → ∀ b ∈ (strip s).2, b ∈ s
  | 0, s, h => by
    have : s = [] := List.eq_nil_of_length_eq_zero (by omega)
    subst this
    simp [strip, stripL]
  | n + 1, s, h => by
    cases hp : Lib.hasPrefix s [62] with
    | false => rw [strip_no hp]; exact fun b hb => hb
    | true =>
      have h0 := prefix_pos hp
      have h3 := trimPrefix_len (s.drop 1) [32]
      rw [List.length_drop] at h3
      have ih := strip_sub n (Lib.trimPrefix (s.drop 1) [32]) (by omega)
      rw [strip_yes hp]
      exact fun b hb => List.mem_of_mem_drop (trimPrefix_sub _ _ b (ih b hb))
theorem bareQ_nofeed (l : List UInt8) : ∀ x ∈ bareQ (apartL l), (10 : UInt8) ∉ x := by
  intro x hx hb
  have h1 : x ∈ (apartL l).map fun q => q.2.1 := by
    unfold bareQ at hx
    obtain ⟨q, hq, rfl⟩ := List.mem_map.1 hx
    exact List.mem_map.2 ⟨q, (List.mem_filter.1 hq).1, rfl⟩
  unfold apartL at h1
  rw [apartQ_texts] at h1
  obtain ⟨p, hp, rfl⟩ := List.mem_map.1 h1
  obtain ⟨y, hy, rfl⟩ := List.mem_map.1 hp
  have h2 := strip_sub y.length y (Nat.le_refl _) 10 hb
  unfold lineL at hy
  split at hy
  · cases hy
  · exact (splitC_mem 10 _ y hy).1 h2
theorem own_lines (l : List UInt8) (m : Nat) : ((splitC 10 (endL ((bareQ (apartL l)).take m))).dropLast).length ≤ (bareQ (apartL l)).length := by
  rw [split_endL _ (fun x hx => bareQ_nofeed l x (List.mem_of_mem_take hx))]
  exact List.length_take_le' _ _
end Go.Proofs.YtmaimojpjepmjaaGreatDoor
