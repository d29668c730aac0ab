
/-
  wrapped: the pieces of a line.
-/
import Derived.Test.YtbipkkebkddegaaGreatDoorStrLib
import Derived.Test.YtbipkkebkddegaaGreatDoorConv
import Derived.Test.YtbipkkebkddegaaGreatDoorWrapPlain
import Derived.Lib.LastIndexByte
import Derived.Deep.RegionLaw
namespace Go.Proofs.YtbipkkebkddegaaGreatDoor
open Go.RowKit

theorem extract_data (s : ByteArray) (f t : Nat) : (s.extract f t).data.toList = (s.data.toList.drop f).take (t - f) := by
  rw [ByteArray.data_extract, Array.toList_extract, List.extract_eq_take_drop]
theorem extract_to (s : ByteArray) (t : Nat) : (s.extract 0 t).data.toList = s.data.toList.take t := by
  rw [extract_data]; simp
theorem extract_end (s : ByteArray) (f : Nat) : (s.extract f s.size).data.toList = s.data.toList.drop f := by
  rw [extract_data]
  exact List.take_of_length_le (by rw [List.length_drop]; exact Nat.le_refl _)
theorem size_list' (s : ByteArray) : s.size = s.data.toList.length := rfl
theorem getB_extract (s : ByteArray) (k : Nat) (hk : k < 81) (hs : 81 ≤ s.size) : (s.extract 0 81).data[k]! = s.data.toList.getD k 0 := by
  have h1 : (s.extract 0 81).data.size = 81 := by rw [ByteArray.data_extract, Array.size_extract]; show min 81 s.size - 0 = 81; omega
  rw [getElem!_pos _ _ (by omega), List.getD_eq_getElem?_getD]
  have h2 : (s.extract 0 81).data.toList[k]? = s.data.toList[k]? := by rw [extract_to, List.getElem?_take_of_lt hk]
  rw [← h2, Array.getElem?_toList, Array.getElem?_eq_getElem (by omega)]
  rfl
theorem lastSp_idx (s : ByteArray) (hs : 81 ≤ s.size) : ∀ k, k ≤ 81 → (0 < lastSp s.data.toList k ∧ Lib.lastIdx (s.extract 0 81) 32 k = (lastSp s.data.toList k : Int)) ∨ (lastSp s.data.toList k = 0 ∧ Lib.lastIdx (s.extract 0 81) 32 k ≤ 0)
  | 0, _ => .inr ⟨rfl, by simp [Lib.lastIdx]⟩
  | k + 1, hk => by
    have hg := getB_extract s k (by omega) hs
    by_cases h : s.data.toList.getD k 0 = 32
    · rw [Lib.lastIdx_hit _ _ _ (by rw [hg, h]; rfl)]
      have e : lastSp s.data.toList (k + 1) = k := by simp only [lastSp]; rw [if_pos h]
      rw [e]
      rcases Nat.eq_zero_or_pos k with h0 | h0
      · exact .inr ⟨h0, by omega⟩
      · exact .inl ⟨h0, rfl⟩
    · rw [Lib.lastIdx_miss _ _ _ (by
        rw [hg]
        intro e
        apply h
        apply UInt8.toNat_inj.1
        show _ = 32
        omega)]
      have e : lastSp s.data.toList (k + 1) = lastSp s.data.toList k := by rw [lastSp, if_neg h]
      rw [e]
      exact lastSp_idx s hs k (by omega)
def WrapPost (w : World) (L : List UInt8) (e : Ending) (w' : World) : Prop := ∃ v, e = .returned v ∧ OwnStrs w' w.heap.size v (wrapL L) ∧ Below w.heap.size w w'
end Go.Proofs.YtbipkkebkddegaaGreatDoor
