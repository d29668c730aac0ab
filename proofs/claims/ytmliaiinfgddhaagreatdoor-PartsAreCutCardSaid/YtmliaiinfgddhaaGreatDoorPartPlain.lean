
/-
  Parts of lists of ids: filters and sublists. Plain lists.
-/
import Derived.Test.YtmliaiinfgddhaaGreatDoorFaultPlain
namespace Go.Proofs.YtmliaiinfgddhaaGreatDoor
open Go

theorem sub_filter {α : Type} [BEq α] [LawfulBEq α] {some all : List α} (h : some.Sublist all) (hn : all.Nodup) : all.filter (fun x => some.contains x) = some := by
  induction h with
  | slnil => rfl
  | cons a h ih =>
    rw [List.nodup_cons] at hn
    rw [List.filter_cons_of_neg (by intro hc; exact hn.1 (h.subset (by simpa using hc)))]
    exact ih hn.2
  | cons_cons a h ih =>
    rename_i l1 l2
    rw [List.nodup_cons] at hn
    rw [List.filter_cons_of_pos (by simp)]
    have e : l2.filter (fun x => (a :: l1).contains x) = l2.filter (fun x => l1.contains x) := List.filter_congr fun x hx => by
      have hne : x ≠ a := fun e => hn.1 (e ▸ hx)
      simp [hne]
    rw [e, ih hn.2]
theorem cut_part {α : Type} [BEq α] [LawfulBEq α] {some all : List α} (h : some.Sublist all) (hn : all.Nodup) (p : α → Bool) : (all.filter p).filter (fun x => some.contains x) = some.filter p := by
  rw [List.filter_filter]
  have e : (fun x => some.contains x && p x) = fun x => p x && some.contains x := by funext x; rw [Bool.and_comm]
  rw [e, ← List.filter_filter, sub_filter h hn]
theorem part_more {α : Type} {all : List α} {p q : α → Bool} (h : ∀ x, p x = true → q x = true) : ∀ x ∈ all.filter p, x ∈ all.filter q := by
  intro x hx
  rw [List.mem_filter] at hx ⊢
  exact ⟨hx.1, h x hx.2⟩
end Go.Proofs.YtmliaiinfgddhaaGreatDoor
