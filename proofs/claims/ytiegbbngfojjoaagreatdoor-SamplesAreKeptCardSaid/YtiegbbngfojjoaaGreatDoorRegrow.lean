
/-
  One row of a table of the call's own is put in the place of another one.
-/
import Derived.Test.YtiegbbngfojjoaaGreatDoorTab
namespace Go.Proofs.YtiegbbngfojjoaaGreatDoor
open Go.RowKit

/-- Row k was appended to, and its header is stored. -/
theorem ParasAt.regrow {w w1 : World} {base G n c k : Nat} {rs : List HdS} {T : List (List Str)} {r r' : HdS} {p p' : List Str} (h : ParasAt w base (.slice (some ⟨G, 0, none⟩) n c) rs T) (hr : rs[k]? = some r) (hp : T[k]? = some p)
    (ho : OwnStrs w1 base r'.v p') (hg : w.grownBy w1 r.v.ownBlock) (hb : r'.v.ownBlock = r.v.ownBlock ∨ r'.v.ownBlock = none ∨ ∃ j, r'.v.ownBlock = some j ∧ w.heap.size ≤ j) :
    ParasAt (w1.setCell ⟨G, k, none⟩ r'.v) base (.slice (some ⟨G, 0, none⟩) n c) (rs.set k r') (T.set k p') := by
  have hrow := h.each k r p hr hp
  have hout : Owns LineE w1 base (.slice (some ⟨G, 0, none⟩) n c) rs := h.own.beside hrow (Ne.symm line_ne) hg
  have hgs : w1.grownBy (w1.setCell ⟨G, k, none⟩ r'.v) (Value.slice (some ⟨G, 0, none⟩) n c).ownBlock := grown_setCell w1 G k r'.v
  have hkl := (List.getElem?_eq_some_iff.1 hr).1
  have hown : Owns LineE (w1.setCell ⟨G, k, none⟩ r'.v) base (.slice (some ⟨G, 0, none⟩) n c) (rs.set k r') := by
    have := hout.set_ lineE_ok k r r' 0 r'.v hr (by decide) rfl
    rwa [show k * LineE.size + 0 = k by show k * 1 + 0 = k; omega] at this
  have hkeep : ∀ (k' : Nat) (x : HdS) (q : List Str), k' ≠ k → rs[k']? = some x → T[k']? = some q → OwnStrs w base x.v q ∧ (x.v.ownBlock = none ∨ x.v.ownBlock ≠ r.v.ownBlock) := by
    intro k' x q hne hx hq
    refine ⟨h.each k' x q hx hq, ?_⟩
    have hxl := (List.getElem?_eq_some_iff.1 hx).1
    rcases Nat.lt_or_ge k' k with hlt | hge
    · have ha := List.pairwise_iff_getElem.1 h.apart k' k hxl hkl hlt
      rw [(List.getElem?_eq_some_iff.1 hx).2, (List.getElem?_eq_some_iff.1 hr).2] at ha
      rcases ha with ha | ha
      · exact .inl ha
      · exact .inr (fun e => ha e.symm)
    · have ha := List.pairwise_iff_getElem.1 h.apart k k' hkl hxl (by omega)
      rw [(List.getElem?_eq_some_iff.1 hx).2, (List.getElem?_eq_some_iff.1 hr).2] at ha
      rcases ha with ha | ha
      · cases hxb : x.v.ownBlock with
        | none => exact .inl rfl
        | some b => exact .inr (by rw [ha]; simp)
      · exact .inr ha
  have hap : ∀ (k' : Nat) (x : HdS) (q : List Str), k' ≠ k → rs[k']? = some x → T[k']? = some q → ApartH x r' ∧ ApartH r' x := by
    intro k' x q hne hx hq
    obtain ⟨hox, hxr⟩ := hkeep k' x q hne hx hq
    cases hxb : x.v.ownBlock with
    | none =>
      refine ⟨.inl hxb, ?_⟩
      cases hrb : r'.v.ownBlock with
      | none => exact .inl hrb
      | some b => exact .inr (by rw [hxb, hrb]; simp)
    | some b =>
      have hbl := (hox.lt b hxb).2
      have hne2 : r'.v.ownBlock ≠ some b := by
        rcases hb with e | e | ⟨j, e, hj⟩
        · rw [e]
          rcases hxr with h1 | h1
          · rw [hxb] at h1; cases h1
          · rw [hxb] at h1; exact fun e2 => h1 e2.symm
        · rw [e]; simp
        · rw [e]; intro e2; injection e2 with e2; omega
      exact ⟨.inr (by rw [hxb]; exact hne2), by
        cases hrb : r'.v.ownBlock with
        | none => exact .inl hrb
        | some b' => exact .inr (by rw [hxb]; intro e; exact hne2 e.symm)⟩
  refine ⟨hown, by rw [List.length_set, List.length_set]; exact h.len, fun k' x q hx hq => ?_, ?_⟩
  · by_cases hk : k' = k
    · subst hk
      rw [List.getElem?_set_self hkl] at hx
      rw [List.getElem?_set_self (by rw [← h.len]; exact hkl)] at hq
      cases hx; cases hq
      exact ho.beside hout line_ne hgs
    · rw [List.getElem?_set_ne (fun e => hk e.symm)] at hx hq
      obtain ⟨hox, hxr⟩ := hkeep k' x q hk hx hq
      have h1 : OwnStrs w1 base x.v q := World.ownsRow.kept hox hg hxr
      exact h1.beside hout line_ne hgs
  · rw [List.pairwise_iff_getElem]
    intro i j hi hj hij
    have hi' : i < rs.length := by rw [List.length_set] at hi; exact hi
    have hj' : j < rs.length := by rw [List.length_set] at hj; exact hj
    have hTi : i < T.length := by rw [← h.len]; exact hi'
    have hTj : j < T.length := by rw [← h.len]; exact hj'
    by_cases hik : i = k
    · subst hik
      rw [List.getElem_set_self, List.getElem_set_ne (by omega)]
      exact (hap j _ _ (by omega) (List.getElem?_eq_getElem hj') (List.getElem?_eq_getElem hTj)).2
    · by_cases hjk : j = k
      · subst hjk
        rw [List.getElem_set_self, List.getElem_set_ne (by omega)]
        exact (hap i _ _ (by omega) (List.getElem?_eq_getElem hi') (List.getElem?_eq_getElem hTi)).1
      · rw [List.getElem_set_ne (fun e => hik e.symm), List.getElem_set_ne (fun e => hjk e.symm)]
        exact List.pairwise_iff_getElem.1 h.apart i j hi' hj' hij
end Go.Proofs.YtiegbbngfojjoaaGreatDoor
