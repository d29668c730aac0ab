
/-
  Tables: slices of slices of strings, read, made row by row, and stored into.
-/
import Derived.Test.YtiegbbngfojjoaaGreatDoorStrLib
import Derived.Test.YtiegbbngfojjoaaGreatDoorOwnSet
namespace Go.Proofs.YtiegbbngfojjoaaGreatDoor
open Go.RowKit

abbrev Str : Type := List UInt8
/-- Headers of slices of strings. -/
abbrev HdS := Option Addr × Nat × Nat
def HdS.v (r : HdS) : Value := .slice r.1 r.2.1 r.2.2
def LineE : Elem HdS := ⟨32, 74, 1, 24, .slice none 0 0, fun r => [r.v]⟩
theorem lineE_ok : LineE.Ok := ⟨fun _ => rfl, fun x u hu => by simp [LineE] at hu; subst hu; rfl, by decide, by decide, by kernel_rfl, by kernel_rfl, Tryz.underlying74⟩
/-- Two headers do not share a block. -/
def ApartH (r s : HdS) : Prop := r.v.ownBlock = none ∨ s.v.ownBlock ≠ r.v.ownBlock
structure ParasAt (w : World) (base : Nat) (v : Value) (rs : List HdS) (ps : List (List Str)) : Prop where
  own : Owns LineE w base v rs
  len : rs.length = ps.length
  each : ∀ (k : Nat) (r : HdS) (p : List Str), rs[k]? = some r → ps[k]? = some p → OwnStrs w base r.v p
  apart : rs.Pairwise ApartH
theorem line_ne : LineE.t ≠ StrE.t := by decide
theorem ParasAt.nil (w : World) (base : Nat) : ParasAt w base (.slice none 0 0) [] [] := ⟨Owns.nil _ _, rfl, fun k r p h => by simp at h, List.Pairwise.nil⟩
theorem ParasAt.below {w w' : World} {base : Nat} {v : Value} {rs : List HdS} {ps : List (List Str)} (h : ParasAt w base v rs ps) (hb : Below w.heap.size w w') : ParasAt w' base v rs ps :=
  ⟨h.own.below_ hb, h.len, fun k r p hr hp => (h.each k r p hr hp).below_ hb, h.apart⟩
theorem ParasAt.base_ {w : World} {base base' : Nat} {v : Value} {rs : List HdS} {ps : List (List Str)} (h : ParasAt w base v rs ps) (hb : base' ≤ base) : ParasAt w base' v rs ps :=
  ⟨h.own.base_ hb, h.len, fun k r p hr hp => (h.each k r p hr hp).base_ hb, h.apart⟩
theorem ParasAt.kept_ {w w' : World} {base : Nat} {v : Value} {rs : List HdS} {ps : List (List Str)} {row : Option Nat} (h : ParasAt w base v rs ps) (hg : w.grownBy w' row) (hr : ∀ i, row = some i → i < base) : ParasAt w' base v rs ps :=
  ⟨h.own.kept_ hg hr, h.len, fun k r p h1 h2 => (h.each k r p h1 h2).kept_ hg hr, h.apart⟩
theorem getElem?_snoc {α : Type} (l : List α) (x y : α) (k : Nat) (h : (l ++ [x])[k]? = some y) : (k < l.length ∧ l[k]? = some y) ∨ (k = l.length ∧ y = x) := by
  rcases Nat.lt_or_ge k l.length with hk | hk
  · rw [List.getElem?_append_left hk] at h; exact .inl ⟨hk, h⟩
  · rw [List.getElem?_append_right hk] at h
    have hk0 : k - l.length = 0 := by have := (List.getElem?_eq_some_iff.1 h).1; simpa using this
    rw [hk0] at h
    simp at h
    exact .inr ⟨by omega, h.symm⟩
/-- One more row, apart from those that are there. -/
theorem ParasAt.push {w w' : World} {base : Nat} {v v' : Value} {rs : List HdS} {ps : List (List Str)} {r : HdS} {p : List Str} (h : ParasAt w base v rs ps) (hr : OwnStrs w base r.v p) (ha : ∀ x ∈ rs, ApartH x r)
    (ho : Owns LineE w' base v' (rs ++ [r])) (hg : w.grownBy w' v.ownBlock) : ParasAt w' base v' (rs ++ [r]) (ps ++ [p]) := by
  refine ⟨ho, by simp [h.len], fun k x q hx hq => ?_, ?_⟩
  · rcases getElem?_snoc _ _ _ _ hx with ⟨hk, hx'⟩ | ⟨hk, rfl⟩
    · rcases getElem?_snoc _ _ _ _ hq with ⟨_, hq'⟩ | ⟨hk2, _⟩
      · exact (h.each k x q hx' hq').beside h.own line_ne hg
      · have := h.len; omega
    · rcases getElem?_snoc _ _ _ _ hq with ⟨hk2, _⟩ | ⟨_, rfl⟩
      · have := h.len; omega
      · exact hr.beside h.own line_ne hg
  · rw [List.pairwise_append]
    exact ⟨h.apart, List.pairwise_singleton _ _, fun x hx s hs => by simp at hs; subst hs; exact ha x hx⟩
theorem apart_none (x : HdS) : ApartH x (none, 0, 0) := by
  cases hb : x.v.ownBlock with
  | none => exact .inl hb
  | some b => exact .inr (by rw [hb]; simp [HdS.v, Value.ownBlock])
/-- A row that is newer than the table is apart from its rows. -/
theorem ParasAt.newer {w : World} {base : Nat} {v : Value} {rs : List HdS} {ps : List (List Str)} (h : ParasAt w base v rs ps) {r : HdS} (hn : ∀ b, r.v.ownBlock = some b → w.heap.size ≤ b) : ∀ x ∈ rs, ApartH x r := by
  intro x hx
  obtain ⟨k, hk⟩ := List.getElem?_of_mem hx
  have hkl := (List.getElem?_eq_some_iff.1 hk).1
  have hkp : k < ps.length := by rw [← h.len]; exact hkl
  have hq : ps[k]? = some ps[k] := List.getElem?_eq_getElem hkp
  have hold := h.each k x _ hk hq
  cases hxb : x.v.ownBlock with
  | none => exact .inl hxb
  | some d =>
    have := (hold.lt d hxb).2
    refine .inr ?_
    rw [hxb]
    intro e
    have := hn d e
    omega
theorem Owns.newRow {α : Type} {E : Elem α} {w : World} {base : Nat} {v : Value} {l : List α} (h : Owns E w base v l) : ∀ b, v.ownBlock = some b → base ≤ b := fun b hb => (h.lt b hb).1

/-- A table that is read. -/
def TabAt (w : World) (A : Option Addr) (n c : Nat) (T : List (List Str)) : Prop :=
  ∃ rs : List HdS, ElemsAt LineE w A n c rs ∧ rs.length = T.length ∧ ∀ (k : Nat) (r : HdS) (p : List Str), rs[k]? = some r → T[k]? = some p → StrsAt w r.1 r.2.1 r.2.2 p
theorem TabAt.len {w : World} {A : Option Addr} {n c : Nat} {T : List (List Str)} (h : TabAt w A n c T) : n = T.length := by
  obtain ⟨rs, h1, h2, _⟩ := h
  rw [h1.1, h2]
theorem TabAt.le {w : World} {A : Option Addr} {n c : Nat} {T : List (List Str)} (h : TabAt w A n c T) : n ≤ c := by
  obtain ⟨rs, h1, _⟩ := h
  exact h1.2.1
theorem TabAt.keep {w w' : World} {A : Option Addr} {n c : Nat} {T : List (List Str)} (h : TabAt w A n c T) (hb : Below w.heap.size w w') : TabAt w' A n c T := by
  obtain ⟨rs, h1, h2, h3⟩ := h
  exact ⟨rs, h1.keep hb, h2, fun k r p hr hp => (h3 k r p hr hp).keep hb⟩
theorem TabAt.row {w : World} {A : Option Addr} {n c : Nat} {T : List (List Str)} (h : TabAt w A n c T) (h0 : 0 < n) : ∃ g off, A = some ⟨g, off, none⟩ ∧ g < w.heap.size ∧ ∀ k, k < n → ∃ R rn rc, w.cell? ⟨g, off + k, none⟩ = some (.slice R rn rc) ∧ StrsAt w R rn rc (T.getD k []) := by
  obtain ⟨rs, h1, h2, h3⟩ := h
  obtain ⟨g, off, hA, hg, hc⟩ := h1.2.2.2 h0
  refine ⟨g, off, hA, hg, fun k hk => ?_⟩
  have hl : k < rs.length := by rw [← h1.1]; exact hk
  have hT : k < T.length := by rw [← h2]; exact hl
  have := hc k _ 0 _ (List.getElem?_eq_getElem hl) (by simp [LineE]; rfl)
  refine ⟨(rs[k]).1, (rs[k]).2.1, (rs[k]).2.2, by simpa [LineE, HdS.v] using this, ?_⟩
  rw [List.getD_eq_getElem?_getD, List.getElem?_eq_getElem hT]
  exact h3 k _ _ (List.getElem?_eq_getElem hl) (List.getElem?_eq_getElem hT)
theorem ParasAt.tab {w : World} {base : Nat} {v : Value} {rs : List HdS} {ps : List (List Str)} (h : ParasAt w base v rs ps) : ∃ A c, v = .slice A ps.length c ∧ c ≤ maxLen ∧ TabAt w A ps.length c ps ∧ (∀ g off, A = some ⟨g, off, none⟩ → off = 0 ∧ base ≤ g) := by
  obtain ⟨A, c, hv, hc, hE, hA⟩ := h.own.at_ lineE_ok
  rw [h.len] at hv hE
  refine ⟨A, c, hv, hc, ⟨rs, hE, h.len, fun k r p hr hp => ?_⟩, hA⟩
  obtain ⟨A2, c2, hv2, _, hE2, _⟩ := (h.each k r p hr hp).at_ strE_ok
  obtain ⟨r1, r2, r3⟩ := r
  simp only [HdS.v, Value.slice.injEq] at hv2
  obtain ⟨rfl, rfl, rfl⟩ := hv2
  exact hE2
/-- One row as a table of its own. -/
theorem TabAt.piece {w : World} {A : Option Addr} {n c : Nat} {T : List (List Str)} (h : TabAt w A n c T) (i : Nat) (hi : i ≤ n) : ∃ A', sliced A i n c LineE.size = .slice A' (n - i) (c - i) ∧ TabAt w A' (n - i) (c - i) (T.drop i) := by
  obtain ⟨rs, h1, h2, h3⟩ := h
  obtain ⟨A', e, h4⟩ := h1.piece i n hi (Nat.le_refl _)
  refine ⟨A', e, (rs.drop i).take (n - i), h4, by simp [h2, h1.1], fun k r p hr hp => ?_⟩
  rw [List.getElem?_take] at hr
  split at hr
  · rw [List.getElem?_drop] at hr hp
    exact h3 _ _ _ hr hp
  · cases hr
end Go.Proofs.YtiegbbngfojjoaaGreatDoor
