
/-
  Contains of strings; two rows of the call's own that do not share a block.
-/
import Derived.Test.YthogkcgklakibaaGreatDoorStrLib
namespace Go.Proofs.YthogkcgklakibaaGreatDoor
open Go.RowKit

abbrev Str : Type := List UInt8
theorem idxS_neg (x : Str) : ∀ (l : List Str) (i : Nat), decide (0 ≤ Lib.idxFromS (l.map bag) (bag x) i) = l.contains x
  | [], i => by simp [Lib.idxFromS]
  | y :: l, i => by
    by_cases h : y = x
    · subst h
      simp [Lib.idxFromS]
    · have h' : ¬ bag y = bag x := fun e => h (bag_inj.1 e)
      have ih := idxS_neg x l (i + 1)
      have h'' : ¬ x = y := fun e => h e.symm
      simp only [List.map_cons, Lib.idxFromS, h', if_false]
      rw [ih]
      simp [h'']
theorem containsS_bag (x : Str) (l : List Str) : Lib.containsS (l.map bag) (bag x) = l.contains x := by
  have := idxS_neg x l 0
  unfold Lib.containsS
  first | exact this | (unfold Lib.idxOfS; exact this) | (rw [← this]; simp [Lib.idxOfS])
section
variable {α : Type} {E : Elem α}
/-- Two rows of the call's own that do not share a block. -/
def ApartV (v u : Value) : Prop := ∀ i, v.ownBlock = some i → u.ownBlock ≠ some i
theorem ApartV.symm {v u : Value} (h : ApartV v u) : ApartV u v := fun i e1 e2 => h i e2 e1
theorem apart_nil (u : Value) : ApartV (.slice none 0 0) u := fun i e => by cases e
theorem ApartV.grow {w : World} {base : Nat} {v v' u : Value} {Y : List α} {o : Obj} (h : ApartV v u) (hu : Owns E w base u Y) (hv : v'.ownBlock = v.ownBlock ∨ v'.ownBlock = some (w.alloc o).heap.size) : ApartV v' u := by
  intro i e1 e2
  rcases hv with hv | hv
  · exact h i (hv ▸ e1) e2
  · rw [hv] at e1
    have e3 := Option.some.inj e1
    have := (hu.lt i e2).2
    simp at e3
    omega
theorem Owns.apart {w w' : World} {base : Nat} {v u : Value} {Y : List α} {o : Obj} (h : ApartV v u) (hu : Owns E w base u Y) (hg : (w.alloc o).grownBy w' v.ownBlock) : Owns E w' base u Y := by
  refine World.ownsRow.kept (World.ownsRow.alloc hu o) hg ?_
  cases e : u.ownBlock with
  | none => exact .inl rfl
  | some i => exact .inr (fun e2 => h i e2.symm e)
end
theorem Owns.lit {α : Type} {E : Elem α} (hE : E.Ok) (w : World) (base : Nat) (l : List α) (hb : base ≤ w.heap.size) (hl : l.length ≤ 1000) : Owns E (w.alloc (.cells (E.cells l).toArray E.t)) base (.slice (some ⟨w.heap.size, 0, none⟩) l.length l.length) l := by
  refine ⟨Elem.cells_length hE l, .inr ⟨w.heap.size, l.length, (E.cells l).toArray, rfl, hb, heap_alloc_new _ _, Nat.le_refl _, by unfold maxLen; omega, by simp [Elem.cells_length hE], ?_⟩⟩
  rw [List.take_of_length_le]
  rw [List.toList_toArray, Elem.cells_length hE]
  exact Nat.le_refl _
theorem alloc_strs (w : World) (l : List (List UInt8)) (t : TypeId) : StrsAt (w.alloc (.cells (l.map fun x => Value.string ⟨x.toArray⟩).toArray t)) (some ⟨w.heap.size, 0, none⟩) l.length l.length l := by
  refine ⟨rfl, Nat.le_refl _, (fun e => by cases e), fun _ => ⟨w.heap.size, 0, rfl, by simp, fun k x i v hk hv => ?_⟩⟩
  have hi : i = 0 := by have := (List.getElem?_eq_some_iff.1 hv).1; simp [StrE] at this; exact this
  subst hi
  simp [StrE] at hv
  subst hv
  rw [World.cell?_alloc_at _ _ _ _ rfl]
  simp [StrE, hk]
theorem bags_data (l : List (List UInt8)) : (l.map bag).map (·.data.toList) = l := by
  rw [List.map_map]
  have : ((fun b : ByteArray => b.data.toList) ∘ bag) = id := by funext x; exact bag_data x
  rw [this, List.map_id]
theorem joinC_any (A : Option Addr) (n c : Nat) (l : List Str) (d : UInt8) (w : World) (h : StrsAt w A n c l) (hn : n ≤ 100000) (hl : (Lib.join l [d]).length ≤ 1000000) :
    Calls Tryz.prog 86 #[.slice A n c, .string ⟨#[d]⟩] w fun e w' => e = .returned (.string (bag (Lib.join l [d]))) ∧ Below w.heap.size w w' := by
  have hnl := h.1
  rcases Nat.eq_zero_or_pos n with h0 | h0
  · subst h0
    have hl : l = [] := List.eq_nil_of_length_eq_zero hnl.symm
    subst hl
    refine (Tryz.strings_Join_none A c ⟨#[d]⟩ w).mono ?_
    rintro e w' ⟨rfl, rfl⟩
    exact ⟨rfl, Below.refl _ _⟩
  · obtain ⟨g, off, rfl, hg, hc⟩ := h.str h0
    subst hnl
    have hb := bags_data l
    have hj := Tryz.strings_Join g off c (l.map bag) ⟨#[d]⟩ w (fun j x hx => by
      have hjl : j < (l.map bag).length := (List.getElem?_eq_some_iff.1 hx).1
      rw [h.bags j hjl, List.getD_eq_getElem?_getD, hx]; rfl) hg (by simp; omega) (by simp; exact h.2.1) (by rw [hb]; show (Lib.join l [d]).length ≤ _; omega)
    rw [hb, List.length_map] at hj
    exact hj

end Go.Proofs.YthogkcgklakibaaGreatDoor
