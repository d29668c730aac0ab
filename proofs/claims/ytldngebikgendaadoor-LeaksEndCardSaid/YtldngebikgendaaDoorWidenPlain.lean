/-
  Word ends in plain words.
-/
import Derived.Test.YtldngebikgendaaDoorLetterPlain
import Derived.Test.YtldngebikgendaaDoorPointsPlain
import Derived.Test.YtldngebikgendaaDoorUnionPlain
namespace Go.Proofs.YtldngebikgendaaDoor

def letAt (L : List UInt8) (i : Nat) : Bool := decide (i < L.length) && letB ((L.getD i 0).toNat : Int)
/-- A place in the midst of a word, or inside of a code point. -/
def mid (L : List UInt8) (p : Nat) : Bool := decide (0 < p) && ((letAt L (p - 1) && letAt L p) || insB L p)
def wdn (L : List UInt8) : Nat → Nat
  | 0 => 0
  | n + 1 => if mid L (n + 1) then wdn L n else n + 1
def wupF (L : List UInt8) : Nat → Nat → Nat
  | 0, n => n
  | f + 1, n => if mid L n then wupF L f (n + 1) else n
def wup (L : List UInt8) (n : Nat) : Nat := wupF L (L.length - n) n

theorem letAt_lt {L : List UInt8} {i : Nat} (h : letAt L i = true) : i < L.length := by
  simp [letAt] at h; exact h.1
theorem mid_lt {L : List UInt8} {p : Nat} (h : mid L p = true) : p < L.length := by
  simp only [mid, Bool.and_eq_true, Bool.or_eq_true] at h
  rcases h.2 with h | h
  · exact letAt_lt h.2
  · exact insB_lt h
theorem mid_zero (L : List UInt8) : mid L 0 = false := by simp [mid]
theorem wup_step {L : List UInt8} {n : Nat} (h : mid L n = true) : wup L n = wup L (n + 1) := by
  have hl := mid_lt h
  unfold wup
  rw [show L.length - n = (L.length - (n + 1)) + 1 by omega]
  simp [wupF, h]
theorem wup_stop {L : List UInt8} {n : Nat} (h : mid L n = false) : wup L n = n := by
  unfold wup
  cases L.length - n <;> simp [wupF, h]
theorem wdn_step {L : List UInt8} {n : Nat} (h : mid L (n + 1) = true) : wdn L (n + 1) = wdn L n := by simp [wdn, h]
theorem wdn_stop {L : List UInt8} {n : Nat} (h : mid L n = false) : wdn L n = n := by
  cases n with
  | zero => rfl
  | succ n => simp [wdn, h]
theorem wdn_le (L : List UInt8) : ∀ n, wdn L n ≤ n
  | 0 => Nat.le_refl _
  | n + 1 => by
    unfold wdn
    split
    · exact Nat.le_succ_of_le (wdn_le L n)
    · exact Nat.le_refl _
theorem wdn_mid (L : List UInt8) : ∀ n, mid L (wdn L n) = false
  | 0 => mid_zero L
  | n + 1 => by
    cases h : mid L (n + 1)
    · rw [wdn_stop h]; exact h
    · rw [wdn_step h]; exact wdn_mid L n
theorem le_wupF (L : List UInt8) : ∀ f n, n ≤ wupF L f n
  | 0, _ => Nat.le_refl _
  | f + 1, n => by
    unfold wupF
    split
    · exact Nat.le_trans (Nat.le_succ n) (le_wupF L f (n + 1))
    · exact Nat.le_refl _
theorem le_wup (L : List UInt8) (n : Nat) : n ≤ wup L n := le_wupF L _ n
theorem wup_le (L : List UInt8) : ∀ k n, L.length - n = k → n ≤ L.length → wup L n ≤ L.length ∧ mid L (wup L n) = false := by
  intro k
  induction k with
  | zero =>
    intro n hk hn
    have : mid L n = false := by
      cases h : mid L n
      · rfl
      · have := mid_lt h; omega
    rw [wup_stop this]; exact ⟨hn, this⟩
  | succ k ih =>
    intro n hk hn
    cases h : mid L n
    · rw [wup_stop h]; exact ⟨hn, h⟩
    · rw [wup_step h]; exact ih (n + 1) (by omega) (by omega)

/-- Spans to the ends of words. -/
def widenL (L : List UInt8) (s : List (Int × Int)) : List (Int × Int) := s.map fun x => ((wdn L x.1.toNat : Int), (wup L x.2.toNat : Int))
theorem widenL_mem (L : List UInt8) (s : List (Int × Int)) (hs : Right L.length (-1) s) : ∀ x ∈ widenL L s, -1 < x.1 ∧ x.1 < x.2 ∧ x.2 ≤ (L.length : Int) ∧ mid L x.1.toNat = false ∧ mid L x.2.toNat = false := by
  intro x hx
  obtain ⟨y, hy, rfl⟩ := List.mem_map.1 hx
  obtain ⟨h1, h2, h3⟩ := hs.mem y hy
  have a := wdn_le L y.1.toNat
  have b := le_wup L y.2.toNat
  have c := wup_le L _ y.2.toNat rfl (by omega)
  have d := wdn_mid L y.1.toNat
  simp only [Int.toNat_natCast]
  exact ⟨by omega, by omega, by omega, d, c.2⟩
theorem widenL_same (L : List UInt8) (s : List (Int × Int)) (h : ∀ x ∈ s, -1 < x.1 ∧ -1 < x.2 ∧ mid L x.1.toNat = false ∧ mid L x.2.toNat = false) : widenL L s = s := by
  unfold widenL
  conv => rhs; rw [← List.map_id s]
  apply List.map_congr_left
  intro x hx
  obtain ⟨h1, h2, h3, h4⟩ := h x hx
  rw [wdn_stop h3, wup_stop h4, Int.toNat_of_nonneg (by omega), Int.toNat_of_nonneg (by omega)]
  rfl

end Go.Proofs.YtldngebikgendaaDoor
