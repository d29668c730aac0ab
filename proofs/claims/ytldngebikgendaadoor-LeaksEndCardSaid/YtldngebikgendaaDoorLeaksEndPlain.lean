/-
  Leaks end, in plain words: with the leaks covered too nothing leaks any more.
-/
import Derived.Test.YtldngebikgendaaDoorLeaksPlain
import Derived.Test.YtldngebikgendaaDoorValidPlain
namespace Go.Proofs.YtldngebikgendaaDoor
open Go.Lib

/-- Whole words have it, or none of their bytes. -/
def Sat (L : List UInt8) (p : Nat → Bool) : Prop := ∀ i, letAt L i = true → letAt L (i + 1) = true → p i = p (i + 1)
/-- Both ends are ends of words. -/
def Ends (L : List UInt8) (u : List (Int × Int)) : Prop := ∀ x ∈ u, -1 < x.1 ∧ x.1 < x.2 ∧ x.2 ≤ (L.length : Int) ∧ mid L x.1.toNat = false ∧ mid L x.2.toNat = false

theorem mid_of {L : List UInt8} {i : Nat} (h1 : letAt L i = true) (h2 : letAt L (i + 1) = true) : mid L (i + 1) = true := by
  simp [mid, h1, h2]
theorem ins_let {L : List UInt8} {i : Nat} (h : insB L i = true) : letAt L i = true := by
  have h1 := insB_lt h
  simp only [insB, Bool.and_eq_true, decide_eq_true_eq] at h
  simp only [letAt, letB, Bool.and_eq_true, decide_eq_true_eq]
  exact ⟨h1, by omega⟩
theorem mid_let {L : List UInt8} (hv : validD L = true) {p : Nat} (h : mid L p = true) : ∃ i, p = i + 1 ∧ letAt L i = true ∧ letAt L (i + 1) = true := by
  obtain ⟨v1, v2⟩ := valid_ge _ L rfl hv
  simp only [mid, Bool.and_eq_true, Bool.or_eq_true, decide_eq_true_eq] at h
  obtain ⟨h0, h⟩ := h
  obtain ⟨i, rfl⟩ : ∃ i, p = i + 1 := ⟨p - 1, by omega⟩
  rw [Nat.add_sub_cancel] at h
  refine ⟨i, rfl, ?_⟩
  rcases h with h | h
  · exact h
  · have h1 := v2 i h
    have h2 := insB_lt h
    refine ⟨?_, ins_let h⟩
    simp only [letAt, letB, Bool.and_eq_true, decide_eq_true_eq]
    exact ⟨by omega, by omega⟩

theorem inS_iff {u : List (Int × Int)} {i : Nat} : inS u i = true ↔ ∃ x ∈ u, x.1 ≤ (i : Int) ∧ (i : Int) < x.2 := by
  simp [inS]

theorem sat_ends {L : List UInt8} {u : List (Int × Int)} (h : Ends L u) : Sat L (inS u) := by
  intro i h1 h2
  have hm := mid_of h1 h2
  rw [Bool.eq_iff_iff, inS_iff, inS_iff]
  constructor
  · rintro ⟨x, hx, a, b⟩
    obtain ⟨c1, c2, c3, c4, c5⟩ := h x hx
    refine ⟨x, hx, by omega, ?_⟩
    rcases Int.lt_or_le ((i + 1 : Nat) : Int) x.2 with h | h
    · exact h
    · have : x.2.toNat = i + 1 := by omega
      rw [this, hm] at c5; cases c5
  · rintro ⟨x, hx, a, b⟩
    obtain ⟨c1, c2, c3, c4, c5⟩ := h x hx
    refine ⟨x, hx, ?_, by omega⟩
    rcases Int.lt_or_le (i : Int) x.1 with h | h
    · have : x.1.toNat = i + 1 := by omega
      rw [this, hm] at c4; cases c4
    · exact h
theorem Sat.all {L : List UInt8} {p : Nat → Bool} (h : Sat L p) {f t i : Nat} (ha : AllLet L f t) (h1 : f ≤ i) (h2 : i < t) : p i = p f := by
  obtain ⟨d, rfl⟩ : ∃ d, i = f + d := ⟨i - f, by omega⟩
  induction d with
  | zero => rfl
  | succ d ih =>
    rw [← ih (by omega) (by omega)]
    exact (h (f + d) (ha _ (by omega) (by omega)) (ha _ (by omega) (by omega))).symm

/-- Right spans: the byte before one and the byte behind it are in none. -/
theorem Right.out {size : Int} : ∀ {lo : Int} {l : List (Int × Int)}, Right size lo l → ∀ x ∈ l, (∀ i : Nat, (i : Int) + 1 = x.1 → lo < (i : Int) + 1 → inS l i = false) ∧ (∀ i : Nat, (i : Int) = x.2 → inS l i = false)
  | _, [], _, _, hx => by cases hx
  | lo, y :: l, h, x, hx => by
    obtain ⟨a, b, c, d⟩ := h
    have hnone : ∀ i : Nat, (i : Int) ≤ y.2 → inS l i = false := fun i hi => d.none i hi
    rcases List.mem_cons.1 hx with rfl | hx
    · refine ⟨fun i h1 h2 => ?_, fun i h1 => ?_⟩
      · rw [inS_cons, hnone i (by omega), Bool.or_false]
        simp
        omega
      · rw [inS_cons, hnone i (by omega), Bool.or_false]
        simp
        omega
    · obtain ⟨e1, e2⟩ := d.out x hx
      have hm := d.mem x hx
      refine ⟨fun i h1 h2 => ?_, fun i h1 => ?_⟩
      · rw [inS_cons, e1 i h1 (by omega), Bool.or_false]
        simp
        omega
      · rw [inS_cons, e2 i h1, Bool.or_false]
        simp
        omega

theorem ends_sat {L : List UInt8} (hv : validD L = true) {u : List (Int × Int)} (hR : Right L.length (-1) u) (hs : Sat L (inS u)) : Ends L u := by
  intro x hx
  obtain ⟨h1, h2, h3⟩ := hR.mem x hx
  obtain ⟨o1, o2⟩ := hR.out x hx
  refine ⟨h1, h2, h3, ?_, ?_⟩
  · cases hm : mid L x.1.toNat
    · rfl
    · obtain ⟨i, e, a, b⟩ := mid_let hv hm
      have c := hs i a b
      rw [o1 i (by omega) (by omega)] at c
      have d : inS u (i + 1) = true := inS_iff.2 ⟨x, hx, by omega, by omega⟩
      rw [d] at c; cases c
  · cases hm : mid L x.2.toNat
    · rfl
    · obtain ⟨i, e, a, b⟩ := mid_let hv hm
      have c := hs i a b
      rw [o2 (i + 1) (by omega)] at c
      have d : inS u i = true := inS_iff.2 ⟨x, hx, by omega, by omega⟩
      rw [d] at c; cases c

theorem ends_points {L : List UInt8} (hv : validD L = true) {u : List (Int × Int)} (h : Ends L u) : pointsL L u = u := by
  obtain ⟨v1, v2⟩ := valid_ge _ L rfl hv
  have hin : ∀ p, mid L p = false → insB L p = false := by
    intro p hp
    cases hi : insB L p
    · rfl
    · cases p with
      | zero => rw [v1] at hi; cases hi
      | succ p => simp [mid, hi] at hp
  unfold pointsL
  conv => rhs; rw [← List.map_id u]
  apply List.map_congr_left
  intro x hx
  obtain ⟨h1, h2, h3, h4, h5⟩ := h x hx
  rw [down_stop (hin _ h4), up_stop (hin _ h5), Int.toNat_of_nonneg (by omega), Int.toNat_of_nonneg (by omega)]
  rfl
theorem ends_widen {L : List UInt8} {u : List (Int × Int)} (h : Ends L u) : widenL L u = u :=
  widenL_same L u fun x hx => by
    obtain ⟨h1, h2, h3, h4, h5⟩ := h x hx
    exact ⟨h1, by omega, h4, h5⟩

end Go.Proofs.YtldngebikgendaaDoor
