
/-
  Plain facts on texts.
-/
import Derived.Lib.ValidU
namespace Go.Proofs.YthogkcgklakibaaGreatDoor
open Go

def okByte (feeds : Bool) (c : Nat) : Bool := !((decide (c < 32) && !(feeds && c == 10)) || c == 127)
def visB (feeds : Bool) (l : List UInt8) : Bool := l.all (fun c => okByte feeds c.toNat) && Lib.validD l
def textB (l : List UInt8) : Bool := visB true l && (l.isEmpty || [10].isSuffixOf l)

theorem okT1 (c : Nat) (_h : (c : Int) < 32) (h2 : (c : Int) = 10) : okByte true c = true := by
  have h3 : c = 10 := by omega
  subst h3; rfl
theorem okT2 (f : Bool) (c : Nat) (h : ¬ (c : Int) < 32) (h2 : ((c : Int) == 127) = false) : okByte f c = true := by
  have h3 : ¬ c < 32 := by omega
  have h4 : ¬ c = 127 := by simp at h2; omega
  simp [okByte, h3, h4]
theorem okT3 (c : Nat) (h : (c : Int) < 32) (h2 : ¬ (c : Int) = 10) : okByte true c = false := by
  have h3 : c < 32 := by omega
  have h4 : ¬ c = 10 := by omega
  simp [okByte, h3, h4]
theorem okT4 (f : Bool) (c : Nat) (h : ((c : Int) == 127) = true) : okByte f c = false := by
  have h4 : c = 127 := by simp at h; omega
  subst h4; cases f <;> rfl
theorem okF1 (c : Nat) (h : (c : Int) < 32) : okByte false c = false := by
  have h3 : c < 32 := by omega
  simp [okByte, h3]

theorem take_snoc (s : ByteArray) (k : Nat) (h : k < s.size) : s.data.toList.take (k + 1) = s.data.toList.take k ++ [s[k]] := by
  rw [List.take_succ_eq_append_getElem (by simpa using h)]; rfl
theorem all_snoc (f : UInt8 → Bool) (s : ByteArray) (k : Nat) (h : k < s.size) (ha : (s.data.toList.take k).all f = true) (hk : f s[k] = true) : (s.data.toList.take (k + 1)).all f = true := by
  rw [take_snoc s k h, List.all_append, ha]; simp [hk]
theorem all_no (f : UInt8 → Bool) (s : ByteArray) (k : Nat) (h : k < s.size) (hk : f s[k] = false) : s.data.toList.all f = false := by
  rw [List.all_eq_false]
  exact ⟨s[k], by rw [← Array.mem_def]; exact Array.getElem_mem _, by rw [hk]; simp⟩
theorem all_end (f : UInt8 → Bool) (s : ByteArray) (k : Nat) (h : ¬ k < s.size) (ha : (s.data.toList.take k).all f = true) : s.data.toList.all f = true := by
  rwa [List.take_of_length_le (by simp; exact Nat.le_of_not_lt h)] at ha

end Go.Proofs.YthogkcgklakibaaGreatDoor
