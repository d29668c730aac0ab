/-
  Leaks in plain words.
-/
import Derived.Test.YtldngebikgendaaDoorWordsPlain
namespace Go.Proofs.YtldngebikgendaaDoor

/-- One of the bytes from f to t has it. -/
def anyIn (p : Nat → Bool) (f t : Nat) : Bool := (List.range (t - f)).any fun j => p (f + j)
theorem anyIn_false {p : Nat → Bool} {f t : Nat} (h : anyIn p f t = false) (i : Nat) (h1 : f ≤ i) (h2 : i < t) : p i = false := by
  rw [anyIn, List.any_eq_false] at h
  have := h (i - f) (by simp; omega)
  rw [show f + (i - f) = i by omega] at this
  simpa using this
theorem anyIn_none {p : Nat → Bool} {f t : Nat} (h : ∀ i, f ≤ i → i < t → p i = false) : anyIn p f t = false := by
  rw [anyIn, List.any_eq_false]
  intro j hj
  rw [h (f + j) (by omega) (by simp at hj; omega)]
  simp

/-- The words in spans. -/
def secretL (L : List UInt8) (pts : List (Int × Int)) : List (List UInt8) := pts.flatMap fun x => wordsL (cutL L x.1.toNat x.2.toNat)
theorem secretL_snoc (L : List UInt8) (pts : List (Int × Int)) (x : Int × Int) : secretL L (pts ++ [x]) = secretL L pts ++ wordsL (cutL L x.1.toNat x.2.toNat) := by simp [secretL]
def leakB (L : List UInt8) (pts : List (Int × Int)) (x : Nat × Nat) : Bool := decide (4 ≤ x.2 - x.1) && (!anyIn (inS pts) x.1 x.2) && decide (lowL (cutL L x.1 x.2) ∈ secretL L pts)
def leaksTo (L : List UInt8) (pts : List (Int × Int)) (k : Nat) : List (Int × Int) := ((scan L k).2.filter (leakB L pts)).map fun x => ((x.1 : Int), (x.2 : Int))
def leaksL (L : List UInt8) (pts : List (Int × Int)) : List (Int × Int) := leaksTo L pts (L.length + 1)

theorem wordsL_length (L : List UInt8) : (wordsL L).length ≤ L.length + 1 := by
  unfold wordsL wordsTo
  rw [List.length_map]
  exact scan_length L _
theorem cutL_length (L : List UInt8) (f t : Nat) : (cutL L f t).length ≤ L.length := by
  unfold cutL
  rw [List.length_take, List.length_drop]
  omega
theorem leaksTo_length (L : List UInt8) (pts : List (Int × Int)) (k : Nat) : (leaksTo L pts k).length ≤ k := by
  unfold leaksTo
  rw [List.length_map]
  exact Nat.le_trans (List.length_filter_le _ _) (scan_length L k)

end Go.Proofs.YtldngebikgendaaDoor
