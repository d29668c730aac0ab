/-
  Letters, and small letters, in plain words.
-/
import Derived.Test.YtldngebikgendaaDoorSpanPlain
namespace Go.Proofs.YtldngebikgendaaDoor

/-- A byte belongs to words. -/
def letB (c : Int) : Bool := decide ((97 ≤ c ∧ c ≤ 122) ∨ (65 ≤ c ∧ c ≤ 90) ∨ (48 ≤ c ∧ c ≤ 57) ∨ 128 ≤ c)
def lowB (c : UInt8) : UInt8 := if 65 ≤ c.toNat ∧ c.toNat ≤ 90 then c + 32 else c
/-- Small letters up to place k. -/
def lowTo (L : List UInt8) (k : Nat) : List UInt8 := (L.take k).map lowB ++ L.drop k
theorem lowTo_length (L : List UInt8) (k : Nat) : (lowTo L k).length = L.length := by simp [lowTo]; omega
theorem lowTo_zero (L : List UInt8) : lowTo L 0 = L := by simp [lowTo]
theorem lowTo_all (L : List UInt8) (k : Nat) (h : L.length ≤ k) : lowTo L k = L.map lowB := by simp [lowTo, List.take_of_length_le h, List.drop_of_length_le h]
theorem lowTo_at (L : List UInt8) (k : Nat) (h : k < L.length) : (lowTo L k).getD k 0 = L.getD k 0 := by
  have e : ((L.take k).map lowB).length = k := by simp; omega
  rw [List.getD_eq_getElem?_getD, lowTo, List.getElem?_append_right (by omega), e]
  simp [List.getD_eq_getElem?_getD]
theorem lowTo_set (L : List UInt8) (k : Nat) (h : k < L.length) : (lowTo L k).set k (lowB (L.getD k 0)) = lowTo L (k + 1) := by
  have e : ((L.take k).map lowB).length = k := by simp; omega
  unfold lowTo
  rw [List.set_append_right _ _ (by omega), e, List.drop_eq_getElem_cons h, Nat.sub_self, List.set_cons_zero, List.take_succ_eq_append_getElem h, List.map_append, List.append_assoc]
  simp [h]
theorem lowTo_same (L : List UInt8) (k : Nat) (h : k < L.length) (hs : lowB (L.getD k 0) = L.getD k 0) : lowTo L k = lowTo L (k + 1) := by
  rw [← lowTo_set L k h, hs, ← lowTo_at L k h]
  refine List.ext_getElem? (fun j => ?_)
  by_cases hj : k = j
  · subst hj
    have : k < (lowTo L k).length := by rw [lowTo_length]; exact h
    simp [this]
  · rw [List.getElem?_set_ne hj]
theorem lowB_up (c : UInt8) (h1 : 65 ≤ c.toNat) (h2 : c.toNat ≤ 90) : ((lowB c).toNat : Int) = (c.toNat : Int) + 32 := by
  unfold lowB; rw [if_pos ⟨h1, h2⟩]
  rw [UInt8.toNat_add]
  show (((c.toNat + 32) % 256 : Nat) : Int) = _
  omega
theorem lowB_same (c : UInt8) (h : ¬ (65 ≤ c.toNat ∧ c.toNat ≤ 90)) : lowB c = c := by unfold lowB; rw [if_neg h]

end Go.Proofs.YtldngebikgendaaDoor
